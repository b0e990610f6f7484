/- WHAT THE CALLS OF A LOG MAKE OF A DISK, whatever write the power goes at. No program. -/
import Derived.Test.YtgaplcgenlphdaaWalSpec
namespace Go.Proofs.Ytgaplcgenlphdaa
open Go.RowKit Mem
namespace Wal

def hdr (side used : Nat) : List UInt8 := fill [UInt8.ofNat side, UInt8.ofNat used, UInt8.ofNat (used / 256)]
def hside (h : List UInt8) : Nat := (h.getD 0 0).toNat
def hused (h : List UInt8) : Nat := (h.getD 1 0).toNat + 256 * (h.getD 2 0).toNat
def half (n : Nat) : Nat := (n - 3) / 2
def norm (n : Nat) (h : List UInt8) : Nat × Nat := if 1 < hside h ∨ half n < hused h then (0, 0) else (hside h, hused h)
def most (a b c : List UInt8) : List UInt8 := if b = c then b else a
abbrev Secs := List (List UInt8)
def sec (S : Secs) (i : Nat) : List UInt8 := S.getD i []
def hd (S : Secs) : List UInt8 := most (sec S 0) (sec S 1) (sec S 2)
def content (S : Secs) (side used : Nat) : List UInt8 := ((S.drop (3 + side * half S.length)).take used).flatten
def wrAll : DS → List (Nat × List UInt8) → DS × Int
  | d, [] => (d, 0)
  | d, (i, b) :: r => if d.writeErr (i : Int) b = 0 then wrAll (d.write (i : Int) b) r else (d.write (i : Int) b, d.writeErr (i : Int) b)
/-- The headers that are not h. -/
def fixes (S : Secs) (h : List UInt8) (k : Nat) : List (Nat × List UInt8) := ([0, 1, 2].drop k).filterMap fun i => if sec S i = h then none else some (i, h)
def openR (d1 : DS) (s u : Nat) : DS × (Int ⊕ (Nat × Nat × Secs)) := match parse u (content d1.secs s u) with
  | none => (d1, .inl 5)
  | some rs => (d1, .inr (s, u, rs))
def openD (d : DS) : DS × (Int ⊕ (Nat × Nat × Secs)) :=
  if d.secs.length < 7 then (d, .inl 1) else if d.down then (d, .inl 26)
  else if (wrAll d (fixes d.secs (hd d.secs) 0)).2 = 0 then openR (wrAll d (fixes d.secs (hd d.secs) 0)).1 (norm d.secs.length (hd d.secs)).1 (norm d.secs.length (hd d.secs)).2
  else ((wrAll d (fixes d.secs (hd d.secs) 0)).1, .inl (wrAll d (fixes d.secs (hd d.secs) 0)).2)
def place (base : Nat) : Secs → List (Nat × List UInt8)
  | [] => []
  | c :: r => (base, c) :: place (base + 1) r
def heads (h : List UInt8) : List (Nat × List UInt8) := [(0, h), (1, h), (2, h)]
/-- A log's numbers. -/
structure LS where
  side : Nat
  used : Nat
  dead : Bool
def secsAll (rs : Secs) : Secs := rs.flatMap secsOf
def writes (n side at_ : Nat) (rs : Secs) : List (Nat × List UInt8) := place (3 + side * half n + at_) (secsAll rs) ++ heads (hdr side (at_ + sizes rs))
def putW (d : DS) (L : LS) (rs : Secs) (side at_ : Nat) : DS × LS × Int :=
  if (wrAll d (writes d.secs.length side at_ rs)).2 = 0 then ((wrAll d (writes d.secs.length side at_ rs)).1, ⟨side, at_ + sizes rs, false⟩, 0)
  else ((wrAll d (writes d.secs.length side at_ rs)).1, ⟨L.side, L.used, true⟩, (wrAll d (writes d.secs.length side at_ rs)).2)
def tooLong (rs : Secs) : Bool := rs.any fun r => decide (1000 < r.length)
def putD (d : DS) (L : LS) (rs : Secs) (side at_ : Nat) : DS × LS × Int :=
  if L.dead ∨ d.down then (d, ⟨L.side, L.used, true⟩, 26)
  else if tooLong rs then (d, ⟨L.side, L.used, false⟩, 4)
  else if half d.secs.length < at_ + sizes rs then (d, ⟨L.side, L.used, false⟩, 6)
  else putW d L rs side at_

/-! The disk under many writes. -/
def WF (d : DS) : Prop := (∀ s ∈ d.secs, s.length = 128) ∧ ∀ n t, d.left = some (n, t) → t.length = 128
def puts (S : Secs) (ws : List (Nat × List UInt8)) : Secs := ws.foldl (fun S x => S.set x.1 (fill x.2)) S
theorem puts_length (ws : List (Nat × List UInt8)) : ∀ S : Secs, (puts S ws).length = S.length := by
  induction ws with
  | nil => intro S; rfl
  | cons x r ih => intro S; exact (ih _).trans (List.length_set ..)
theorem puts_other (i : Nat) (ws : List (Nat × List UInt8)) : ∀ S : Secs, (∀ x ∈ ws, x.1 ≠ i) → (puts S ws)[i]? = S[i]? := by
  induction ws with
  | nil => intro S _; rfl
  | cons x r ih =>
    intro S h
    rw [show puts S (x :: r) = puts (S.set x.1 (fill x.2)) r from rfl, ih _ (fun y hy => h y (by simp [hy])), List.getElem?_set_ne (h x (by simp))]
theorem puts_append (S : Secs) (a b : List (Nat × List UInt8)) : puts S (a ++ b) = puts (puts S a) b := List.foldl_append ..
theorem place_length (c : Secs) : ∀ b, (place b c).length = c.length := by
  induction c with
  | nil => intro b; rfl
  | cons x r ih => intro b; simp [place, ih]
theorem place_range (c : Secs) : ∀ b, ∀ x ∈ place b c, b ≤ x.1 ∧ x.1 < b + c.length ∧ x.2 ∈ c := by
  induction c with
  | nil => intro b x hx; simp [place] at hx
  | cons y r ih =>
    intro b x hx
    rcases List.mem_cons.1 hx with rfl | hx
    · simp
    · have := ih (b + 1) x hx
      simp only [List.length_cons, List.mem_cons]
      exact ⟨by omega, by omega, .inr this.2.2⟩
theorem place_take (c : Secs) : ∀ (b k : Nat), (place b c).take k = place b (c.take k) := by
  induction c with
  | nil => intro b k; simp [place]
  | cons y r ih =>
    intro b k
    cases k with
    | zero => rfl
    | succ k => simp [place, ih]
theorem puts_place (c : Secs) : ∀ (b : Nat) (S : Secs), b + c.length ≤ S.length → puts S (place b c) = S.take b ++ (c.map fill ++ S.drop (b + c.length)) := by
  induction c with
  | nil => intro b S _; simp [place, puts]
  | cons y r ih =>
    intro b S h
    simp only [List.length_cons] at h
    rw [show puts S (place b (y :: r)) = puts (S.set b (fill y)) (place (b + 1) r) from rfl, ih _ _ (by rw [List.length_set]; omega)]
    have e1 : (S.set b (fill y)).take (b + 1) = S.take b ++ [fill y] := by
      rw [List.take_succ_eq_append_getElem (by rw [List.length_set]; omega), List.getElem_set_self, List.take_set_of_le (Nat.le_refl _)]
    have e2 : (S.set b (fill y)).drop (b + 1 + r.length) = S.drop (b + (r.length + 1)) := by
      rw [List.drop_set_of_lt (by omega)]
      congr 1
      omega
    rw [e1, e2]
    simp

/-- Many writes, one by one: all of them, or the power has gone at the k-th, which is then torn. -/
theorem wrAll_cases : ∀ (ws : List (Nat × List UInt8)) (d : DS), d.down = false → WF d → (∀ x ∈ ws, x.1 < d.secs.length ∧ x.2.length ≤ 128) →
    (∃ d', wrAll d ws = (d', 0) ∧ d'.down = false ∧ WF d' ∧ d'.secs = puts d.secs ws ∧ d'.writes = d.writes + ws.length ∧ (d.left = none → d'.left = none)) ∨
    (∃ d' k t, ∃ hk : k < ws.length, wrAll d ws = (d', 26) ∧ d'.down = true ∧ WF d' ∧ d'.left = none ∧ d.left ≠ none ∧ t.length = 128 ∧ d'.secs = (puts d.secs (ws.take k)).set (ws[k]).1 t ∧ d'.writes ≤ d.writes + ws.length)
  | [], d, h1, h2, _ => .inl ⟨d, rfl, h1, h2, rfl, rfl, id⟩
  | (i, b) :: r, d, h1, h2, h3 => by
    have h4 := h3 (i, b) (by simp)
    simp only at h4
    have hb : ¬ d.bad (i : Int) b := by unfold DS.bad; omega
    cases ht : d.tears with
    | true =>
      have e1 : d.writeErr (i : Int) b = 26 := by unfold DS.writeErr; rw [if_neg hb, h1, ht]; rfl
      have e2 : d.write (i : Int) b = { secs := d.secs.set i d.torn, writes := d.writes + 1, down := true, left := none } := by unfold DS.write; rw [if_neg hb, h1, ht]; rfl
      have ht2 := DS.tears_some ht
      have ht3 := h2.2 _ _ ht2
      refine .inr ⟨{ secs := d.secs.set i d.torn, writes := d.writes + 1, down := true, left := none }, 0, d.torn, by simp, ?_, rfl, ⟨?_, fun n t h => by cases h⟩, rfl, by rw [ht2]; simp, ht3, rfl, by simp⟩
      · show (if _ then _ else _) = _
        rw [e1, e2]
        rfl
      · intro s hs
        rcases List.mem_or_eq_of_mem_set hs with h | rfl
        · exact h2.1 s h
        · exact ht3
    | false =>
      have e1 : d.writeErr (i : Int) b = 0 := by unfold DS.writeErr; rw [if_neg hb, h1, ht]; rfl
      have e2 : d.write (i : Int) b = { secs := d.secs.set i (fill b), writes := d.writes + 1, down := false, left := d.left.map fun x => (x.1 - 1, x.2) } := by unfold DS.write; rw [if_neg hb, h1, ht]; rfl
      have hw : WF (d.write (i : Int) b) := by
        rw [e2]
        refine ⟨?_, ?_⟩
        · intro s hs
          rcases List.mem_or_eq_of_mem_set hs with h | rfl
          · exact h2.1 s h
          · exact fill_length b
        · intro n t h
          obtain ⟨x, hx, h⟩ := Option.map_eq_some_iff.1 h
          obtain ⟨x1, x2⟩ := x
          simp only [Prod.mk.injEq] at h
          rw [← h.2]
          exact h2.2 _ _ hx
      have hl : (d.write (i : Int) b).secs.length = d.secs.length := by rw [e2]; simp
      have ih := wrAll_cases r (d.write (i : Int) b) (by rw [e2]) hw (fun x hx => by rw [hl]; exact h3 x (by simp [hx]))
      have hun : wrAll d ((i, b) :: r) = wrAll (d.write (i : Int) b) r := by
        show (if _ then _ else _) = _
        rw [e1]
        rfl
      rcases ih with ⟨d', g1, g2, g3, g4, g5, g6⟩ | ⟨d', k, t, hk, g1, g2, g3, g4, g5, g6, g7, g8⟩
      · refine .inl ⟨d', by rw [hun]; exact g1, g2, g3, ?_, ?_, ?_⟩
        · rw [g4, e2]; rfl
        · rw [g5, e2]; simp; omega
        · intro h; apply g6; rw [e2, h]; rfl
      · refine .inr ⟨d', k + 1, t, by simpa using hk, by rw [hun]; exact g1, g2, g3, g4, ?_, g6, ?_, ?_⟩
        · intro h; apply g5; rw [e2, h]; rfl
        · rw [g7, e2]; rfl
        · rw [e2] at g8; simp at g8 ⊢; omega

/-! What a disk says. -/
def Says (S : Secs) (h : List UInt8) (rs : Secs) : Prop := parse (norm S.length h).2 (content S (norm S.length h).1 (norm S.length h).2) = some rs
theorem norm_bound (n : Nat) (h : List UInt8) : (norm n h).1 ≤ 1 ∧ (norm n h).2 ≤ half n := by
  unfold norm
  split <;> simp <;> omega
theorem area {n s u : Nat} (hs : s ≤ 1) (hu : u ≤ half n) (hn : 7 ≤ n) : 3 + s * half n + u ≤ n := by
  unfold half at *
  have : s * ((n - 3) / 2) ≤ 1 * ((n - 3) / 2) := Nat.mul_le_mul_right _ hs
  omega
theorem content_length {S : Secs} (hS : ∀ s ∈ S, s.length = 128) {s u : Nat} (h : 3 + s * half S.length + u ≤ S.length) : (content S s u).length = u * 128 := by
  have key : ∀ L : Secs, (∀ s ∈ L, s.length = 128) → L.flatten.length = L.length * 128 := by
    intro L hL
    induction L with
    | nil => rfl
    | cons x L ih => rw [List.flatten_cons, List.length_append, ih (fun y hy => hL y (by simp [hy])), hL x (by simp), List.length_cons]; omega
  unfold content
  rw [key _ (fun x hx => hS x (List.mem_of_mem_drop (List.mem_of_mem_take hx))), List.length_take, List.length_drop]
  congr 1
  omega
theorem content_congr {S S' : Secs} (hl : S'.length = S.length) {s u : Nat} (h : ∀ i, 3 + s * half S.length ≤ i → i < 3 + s * half S.length + u → S'[i]? = S[i]?) : content S' s u = content S s u := by
  unfold content
  rw [hl]
  congr 1
  apply List.ext_getElem?
  intro i
  rw [List.getElem?_take, List.getElem?_take]
  split
  · rw [List.getElem?_drop, List.getElem?_drop]
    exact h _ (by omega) (by omega)
  · rfl
theorem Says.congr {S S' : Secs} (hl : S'.length = S.length) {h : List UInt8} {rs : Secs} (g : Says S h rs) (k : ∀ i, 3 + (norm S.length h).1 * half S.length ≤ i → i < 3 + (norm S.length h).1 * half S.length + (norm S.length h).2 → S'[i]? = S[i]?) : Says S' h rs := by
  unfold Says at *
  rw [hl, content_congr hl k]
  exact g
theorem Says.heads {S S' : Secs} (hl : S'.length = S.length) {h : List UInt8} {rs : Secs} (g : Says S h rs) (k : ∀ i, 3 ≤ i → S'[i]? = S[i]?) : Says S' h rs :=
  g.congr hl fun i h1 _ => k i (by omega)
/-- The headers are such that A is told, or B. -/
def May (S : Secs) (A B : Secs) : Prop := ∃ h h', Says S h A ∧ Says S h' B ∧ ((sec S 1 = h ∧ sec S 2 = h) ∨ (sec S 0 = h' ∧ sec S 2 = h) ∨ (sec S 0 = h' ∧ sec S 1 = h'))
def Good (S : Secs) (h : List UInt8) (A : Secs) : Prop := sec S 0 = h ∧ sec S 1 = h ∧ sec S 2 = h ∧ Says S h A
theorem Good.may {S : Secs} {h : List UInt8} {A : Secs} (g : Good S h A) : May S A A := ⟨h, h, g.2.2.2, g.2.2.2, .inl ⟨g.2.1, g.2.2.1⟩⟩
theorem sec_set_same (S : Secs) (i : Nat) (t : List UInt8) (h : i < S.length) : sec (S.set i t) i = t := by
  unfold sec
  rw [List.getD_eq_getElem?_getD, List.getElem?_set_self h]
  rfl
theorem sec_set_ne (S : Secs) (i j : Nat) (t : List UInt8) (h : i ≠ j) : sec (S.set i t) j = sec S j := by
  unfold sec
  rw [List.getD_eq_getElem?_getD, List.getD_eq_getElem?_getD, List.getElem?_set_ne h]
theorem sec_len {S : Secs} (hS : ∀ s ∈ S, s.length = 128) {i : Nat} (h : i < S.length) : (sec S i).length = 128 := by
  unfold sec
  rw [List.getD_eq_getElem?_getD, List.getElem?_eq_getElem h]
  exact hS _ (List.getElem_mem h)
theorem sec_set (S : Secs) (i j : Nat) (t : List UInt8) : sec (S.set i t) j = if i = j ∧ i < S.length then t else sec S j := by
  by_cases h : i = j
  · subst h
    by_cases h2 : i < S.length
    · rw [if_pos ⟨rfl, h2⟩, sec_set_same _ _ _ h2]
    · rw [if_neg (fun h => h2 h.2), List.set_eq_of_length_le (by omega)]
  · rw [if_neg (fun h2 => h h2.1), sec_set_ne _ _ _ _ h]
theorem fixes_puts {S : Secs} {m : List UInt8} (hf : fill m = m) (hn : 7 ≤ S.length) : sec (puts S (fixes S m 0)) 0 = m ∧ sec (puts S (fixes S m 0)) 1 = m ∧ sec (puts S (fixes S m 0)) 2 = m := by
  have n0 : 0 < S.length := by omega
  have n1 : 1 < S.length := by omega
  have n2 : 2 < S.length := by omega
  unfold fixes
  by_cases e0 : sec S 0 = m <;> by_cases e1 : sec S 1 = m <;> by_cases e2 : sec S 2 = m <;>
    simp [e0, e1, e2, puts, hf, sec_set, n0, n1, n2]
theorem settle_may {d : DS} {A B : Secs} (hw : WF d) (hdn : d.down = false) (hn : 7 ≤ d.secs.length) (h : May d.secs A B) :
    (∃ d', wrAll d (fixes d.secs (hd d.secs) 0) = (d', 0) ∧ d'.down = false ∧ WF d' ∧ d'.secs.length = d.secs.length ∧ (Good d'.secs (hd d.secs) A ∨ Good d'.secs (hd d.secs) B) ∧ d'.writes ≤ d.writes + 3 ∧ (d.left = none → d'.left = none)) ∨
    (∃ d', wrAll d (fixes d.secs (hd d.secs) 0) = (d', 26) ∧ d'.down = true ∧ WF d' ∧ d'.secs.length = d.secs.length ∧ May d'.secs A B ∧ d'.writes ≤ d.writes + 3 ∧ d'.left = none ∧ d.left ≠ none) := by
  obtain ⟨a, b, s1, s2, pat⟩ := h
  have hin : ∀ x ∈ fixes d.secs (hd d.secs) 0, x.1 < d.secs.length ∧ x.2.length ≤ 128 := by
    intro x hx
    obtain ⟨i, hi, hx⟩ := List.mem_filterMap.1 hx
    have hi3 : i < 3 := by
      simp only [List.drop_zero, List.mem_cons, List.not_mem_nil, or_false] at hi
      omega
    split at hx
    · cases hx
    · injection hx with hx
      subst hx
      refine ⟨by simp only; omega, ?_⟩
      show (hd d.secs).length ≤ 128
      have l0 := sec_len hw.1 (i := 0) (by omega)
      have l1 := sec_len hw.1 (i := 1) (by omega)
      unfold hd most
      split <;> omega
  have key : ∀ m, hd d.secs = m → m.length = 128 → ((sec d.secs 1 = m ∧ sec d.secs 2 = m ∧ m = a) ∨ (sec d.secs 0 = m ∧ m = b ∧ (sec d.secs 2 = a ∨ sec d.secs 1 = m))) := by
    intro m hm _
    unfold hd most at hm
    rcases pat with ⟨e1, e2⟩ | ⟨e1, e2⟩ | ⟨e1, e2⟩
    · rw [e1, e2, if_pos rfl] at hm
      exact .inl ⟨by rw [e1, hm], by rw [e2, hm], hm.symm⟩
    · by_cases he : sec d.secs 1 = sec d.secs 2
      · rw [if_pos he] at hm
        exact .inl ⟨hm, by rw [← he, hm], by rw [← hm, he, e2]⟩
      · rw [if_neg he] at hm
        exact .inr ⟨hm, by rw [← hm, e1], .inl e2⟩
    · by_cases he : sec d.secs 1 = sec d.secs 2
      · rw [if_pos he] at hm
        exact .inr ⟨by rw [e1, ← e2, hm], by rw [← hm, e2], .inr hm⟩
      · rw [if_neg he] at hm
        exact .inr ⟨hm, by rw [← hm, e1], .inr (by rw [e2, ← e1, hm])⟩
  have hml : (hd d.secs).length = 128 := by
    have l0 := sec_len hw.1 (i := 0) (by omega)
    have l1 := sec_len hw.1 (i := 1) (by omega)
    unfold hd most
    split <;> assumption
  have hk := key _ rfl hml
  have hc := wrAll_cases _ d hdn hw hin
  have hf := fill_full hml
  clear hw hin key pat hdn
  generalize hd d.secs = m at *
  generalize d.secs = S at *
  have hws : (fixes S m 0).length ≤ 3 := by
    have := List.length_filterMap_le (fun i => if sec S i = m then none else some (i, m)) ([0, 1, 2].drop 0)
    exact this
  have hlow : ∀ x ∈ fixes S m 0, x.1 < 3 := by
    intro x hx
    obtain ⟨i, hi, hx⟩ := List.mem_filterMap.1 hx
    simp only [List.drop_zero, List.mem_cons, List.not_mem_nil, or_false] at hi
    split at hx
    · cases hx
    · injection hx with hx
      subst hx
      simp only
      omega
  rcases hc with ⟨d', g1, g2, g3, g4, g5, g6⟩ | ⟨d', k, t, hkl, g1, g2, g3, g4, g5, g6, g7, g8⟩
  · have hl : d'.secs.length = S.length := by rw [g4, puts_length]
    have hhigh : ∀ i, 3 ≤ i → d'.secs[i]? = S[i]? := fun i hi => by
      rw [g4]
      exact puts_other i _ _ fun x hx => by have := hlow x hx; omega
    have hall : sec d'.secs 0 = m ∧ sec d'.secs 1 = m ∧ sec d'.secs 2 = m := by
      rw [g4]
      exact fixes_puts hf hn
    refine .inl ⟨d', g1, g2, g3, hl, ?_, by omega, g6⟩
    rcases hk with ⟨_, _, rfl⟩ | ⟨_, rfl, _⟩
    · exact .inl ⟨hall.1, hall.2.1, hall.2.2, s1.heads hl hhigh⟩
    · exact .inr ⟨hall.1, hall.2.1, hall.2.2, s2.heads hl hhigh⟩
  · have hl : d'.secs.length = S.length := by rw [g7, List.length_set, puts_length]
    have hhigh : ∀ i, 3 ≤ i → d'.secs[i]? = S[i]? := fun i hi => by
      have h1 := hlow _ (List.getElem_mem hkl)
      rw [g7, List.getElem?_set_ne (by omega)]
      exact puts_other i _ _ fun x hx => by have := hlow x (List.mem_of_mem_take hx); omega
    have r1 := s1.heads hl hhigh
    have r2 := s2.heads hl hhigh
    refine .inr ⟨d', g1, g2, g3, hl, ⟨a, b, r1, r2, ?_⟩, by omega, g4, g5⟩
    rcases hk with ⟨e1, e2, rfl⟩ | ⟨e0, rfl, e2⟩
    · have hx : (fixes S m 0)[k].1 = 0 := by
        have h1 := List.getElem_mem hkl
        obtain ⟨i, hi, hx⟩ := List.mem_filterMap.1 h1
        simp only [List.drop_zero, List.mem_cons, List.not_mem_nil, or_false] at hi
        rcases hi with rfl | rfl | rfl
        · split at hx
          · cases hx
          · injection hx with hx
            rw [← hx]
        · rw [if_pos e1] at hx; cases hx
        · rw [if_pos e2] at hx; cases hx
      have ht : (fixes S m 0).take k = [] := by
        have : k = 0 := by
          have h1 : (fixes S m 0).length ≤ 1 := by
            unfold fixes
            by_cases e0 : sec S 0 = m <;> simp [e0, e1, e2]
          omega
        rw [this]; rfl
      rw [g7, hx, ht]
      refine .inl ⟨?_, ?_⟩
      · rw [sec_set_ne _ _ _ _ (by omega)]; exact e1
      · rw [sec_set_ne _ _ _ _ (by omega)]; exact e2
    · by_cases e1 : sec S 1 = m
      · have hfx : fixes S m 0 = if sec S 2 = m then [] else [(2, m)] := by
          unfold fixes
          by_cases e3 : sec S 2 = m <;> simp [e0, e1, e3]
        have hx : (fixes S m 0)[k].1 = 2 ∧ (fixes S m 0).take k = [] := by
          simp only [hfx] at hkl ⊢
          by_cases e3 : sec S 2 = m
          · simp [e3] at hkl
          · simp only [e3, if_false] at hkl ⊢
            have : k = 0 := by simpa using hkl
            subst this
            exact ⟨rfl, rfl⟩
        rw [g7, hx.1, hx.2]
        refine .inr (.inr ⟨?_, ?_⟩)
        · rw [sec_set_ne _ _ _ _ (by omega)]; exact e0
        · rw [sec_set_ne _ _ _ _ (by omega)]; exact e1
      · have e2' : sec S 2 = a := e2.resolve_right e1
        have hfx : fixes S m 0 = (1, m) :: if sec S 2 = m then [] else [(2, m)] := by
          unfold fixes
          by_cases e3 : sec S 2 = m <;> simp [e0, e1, e3]
        rw [g7]
        cases k with
        | zero =>
          have hx : (fixes S m 0)[0].1 = 1 := by simp only [hfx, List.getElem_cons_zero]
          rw [hx]
          refine .inr (.inl ⟨?_, ?_⟩)
          · rw [List.take_zero]; exact (sec_set_ne _ _ _ _ (by omega)).trans e0
          · rw [List.take_zero]; exact (sec_set_ne _ _ _ _ (by omega)).trans e2'
        | succ k =>
          have hx : (fixes S m 0)[k + 1].1 = 2 ∧ (fixes S m 0).take (k + 1) = [(1, m)] := by
            simp only [hfx] at hkl ⊢
            by_cases e3 : sec S 2 = m
            · simp [e3] at hkl
            · simp only [e3, if_false] at hkl ⊢
              have : k = 0 := by simp at hkl; omega
              subst this
              exact ⟨rfl, rfl⟩
          rw [hx.1, hx.2]
          refine .inr (.inr ⟨?_, ?_⟩)
          · rw [sec_set_ne _ _ _ _ (by omega)]
            exact (sec_set_ne _ _ _ _ (by omega)).trans e0
          · rw [sec_set_ne _ _ _ _ (by omega)]
            show sec (S.set 1 (fill m)) 1 = m
            rw [hf, sec_set_same _ _ _ (by omega)]
end Wal
end Go.Proofs.Ytgaplcgenlphdaa
