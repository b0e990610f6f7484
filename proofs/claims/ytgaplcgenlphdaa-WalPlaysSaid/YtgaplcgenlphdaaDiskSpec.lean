/- THE DISK AS THE DOCUMENT HAS IT: a plain state; what each deed makes of it; no program. -/
import Derived.Test.YtgaplcgenlphdaaArr
namespace Go.Proofs.Ytgaplcgenlphdaa
open Go.RowKit Mem

/-- The first 128 bytes, and noughts behind them: 128 in all. -/
def fill (l : List UInt8) : List UInt8 := l.take 128 ++ List.replicate (128 - l.length) 0
theorem fill_length (l : List UInt8) : (fill l).length = 128 := by simp [fill]; omega

/-- Sectors; how many writes; is the power gone; how many more writes go, and what is torn then. -/
structure DS where
  secs : List (List UInt8)
  writes : Nat
  down : Bool
  left : Option (Nat × List UInt8)

def DS.bad (d : DS) (i : Int) (l : List UInt8) : Prop := i < 0 ∨ (d.secs.length : Int) ≤ i ∨ 128 < l.length
instance (d : DS) (i : Int) (l : List UInt8) : Decidable (d.bad i l) := inferInstanceAs (Decidable (_ ∨ _ ∨ _))
def DS.tears (d : DS) : Bool := match d.left with
  | some (0, _) => true
  | _ => false
def DS.torn (d : DS) : List UInt8 := match d.left with
  | some (_, t) => t
  | none => []
def DS.writeErr (d : DS) (i : Int) (l : List UInt8) : Int := if d.bad i l then 1 else if d.down then 26 else if d.tears then 26 else 0
def DS.write (d : DS) (i : Int) (l : List UInt8) : DS :=
  if d.bad i l then d else if d.down then d else if d.tears then { secs := d.secs.set i.toNat d.torn, writes := d.writes + 1, down := true, left := none }
  else { secs := d.secs.set i.toNat (fill l), writes := d.writes + 1, down := false, left := d.left.map fun x => (x.1 - 1, x.2) }
theorem DS.tears_some {d : DS} (h : d.tears = true) : d.left = some (0, d.torn) := by
  unfold DS.tears at h
  unfold DS.torn
  cases hL : d.left with
  | none => rw [hL] at h; cases h
  | some x =>
    obtain ⟨n, t⟩ := x
    cases n with
    | zero => rfl
    | succ n => rw [hL] at h; cases h
theorem DS.tears_not {d : DS} (h : d.tears = false) (t : List UInt8) : d.left ≠ some (0, t) := by
  intro e
  unfold DS.tears at h
  rw [e] at h
  cases h
def DS.up (d : DS) : DS := { d with down := false, left := none }
def DS.arm (d : DS) (a : Int) (t : List UInt8) : DS := { d with left := if 0 ≤ a then some (a.toNat, fill t) else none }
def DS.readErr (d : DS) (i : Int) : Int := if i < 0 ∨ (d.secs.length : Int) ≤ i then 1 else if d.down then 26 else 0
def DS.read (d : DS) (i : Int) : List UInt8 := if i < 0 ∨ (d.secs.length : Int) ≤ i then [] else if d.down then [] else d.secs.getD i.toNat []
def DS.fresh (n : Nat) : DS := { secs := List.replicate n (List.replicate 128 0), writes := 0, down := false, left := none }

/-- What a disk of the program's looks like: the struct in block p, its sectors in block g. -/
structure IsDisk (w : World) (p g : Nat) (d : DS) : Prop where
  c0 : ∃ c, d.secs.length ≤ c ∧ w.cell? ⟨p, 0, none⟩ = some (.slice (some ⟨g, 0, none⟩) d.secs.length c)
  c1 : w.cell? ⟨p, 1, none⟩ = some (.int .i64 (d.writes : Int))
  c2 : w.cell? ⟨p, 2, none⟩ = some (.bool d.down)
  c3 : w.cell? ⟨p, 3, none⟩ = some (.bool d.left.isSome)
  c4 : ∃ a : Int, -9223372036854775808 ≤ a ∧ a ≤ 9223372036854775807 ∧ w.cell? ⟨p, 4, none⟩ = some (.int .i64 a) ∧ ∀ n t, d.left = some (n, t) → a = (n : Int)
  c5 : ∃ t : List UInt8, t.length = 128 ∧ Arr w p 5 t ∧ ∀ n t', d.left = some (n, t') → t = t'
  secs : ∀ i, (h : i < d.secs.length) → d.secs[i].length = 128 ∧ Arr w g (i * 128) d.secs[i]
  pf : ∀ o, w.frozen? ⟨p, o, none⟩ = false
  gf : ∀ o, w.frozen? ⟨g, o, none⟩ = false
  ne : p ≠ g
  plt : p < w.heap.size
  glt : g < w.heap.size
  pos : 1 ≤ d.secs.length
  max : d.secs.length ≤ 256

theorem IsDisk.chg {w w' : World} {p g : Nat} {d : DS} {S : List Nat} (h : IsDisk w p g d) (hc : Chg S w w') (hp : p ∉ S) (hg : g ∉ S) : IsDisk w' p g d := by
  have kp : ∀ o, w'.cell? ⟨p, o, none⟩ = w.cell? ⟨p, o, none⟩ := fun o => hc.cell (p := ⟨p, o, none⟩) h.plt hp
  have kg : ∀ o, w'.cell? ⟨g, o, none⟩ = w.cell? ⟨g, o, none⟩ := fun o => hc.cell (p := ⟨g, o, none⟩) h.glt hg
  obtain ⟨a, a1, a2, a3, a4⟩ := h.c4
  obtain ⟨t, t1, t2, t3⟩ := h.c5
  obtain ⟨cc, cc1, cc2⟩ := h.c0
  exact ⟨⟨cc, cc1, (kp 0).trans cc2⟩, (kp 1).trans h.c1, (kp 2).trans h.c2, (kp 3).trans h.c3, ⟨a, a1, a2, (kp 4).trans a3, a4⟩, ⟨t, t1, t2.keep fun j _ => kp j, t3⟩,
    fun i hi => ⟨(h.secs i hi).1, (h.secs i hi).2.keep fun j _ => kg j⟩, fun o => (hc.frozen (p := ⟨p, o, none⟩) h.plt hp).trans (h.pf o), fun o => (hc.frozen (p := ⟨g, o, none⟩) h.glt hg).trans (h.gf o),
    h.ne, Nat.lt_of_lt_of_le h.plt hc.size, Nat.lt_of_lt_of_le h.glt hc.size, h.pos, h.max⟩

/-- A disk one of whose sectors is another one now. -/
theorem IsDisk.put {w w' : World} {p g : Nat} {d : DS} (h : IsDisk w p g d) (d' : DS) (i : Nat) (s : List UInt8) (hs : s.length = 128) (hsec : d'.secs = d.secs.set i s)
    (e0 : w'.cell? ⟨p, 0, none⟩ = w.cell? ⟨p, 0, none⟩) (e1 : w'.cell? ⟨p, 1, none⟩ = some (.int .i64 (d'.writes : Int))) (e2 : w'.cell? ⟨p, 2, none⟩ = some (.bool d'.down)) (e3 : w'.cell? ⟨p, 3, none⟩ = some (.bool d'.left.isSome))
    (e4 : ∃ a : Int, -9223372036854775808 ≤ a ∧ a ≤ 9223372036854775807 ∧ w'.cell? ⟨p, 4, none⟩ = some (.int .i64 a) ∧ ∀ n t, d'.left = some (n, t) → a = (n : Int))
    (e5 : ∃ t : List UInt8, t.length = 128 ∧ Arr w' p 5 t ∧ ∀ n t', d'.left = some (n, t') → t = t')
    (eg : ∀ k, k < i * 128 ∨ i * 128 + 128 ≤ k → w'.cell? ⟨g, k, none⟩ = w.cell? ⟨g, k, none⟩) (es : Arr w' g (i * 128) s)
    (fp : ∀ o, w'.frozen? ⟨p, o, none⟩ = false) (fg : ∀ o, w'.frozen? ⟨g, o, none⟩ = false) (hz : w.heap.size ≤ w'.heap.size) : IsDisk w' p g d' := by
  have hl : d'.secs.length = d.secs.length := by rw [hsec, List.length_set]
  refine ⟨by rw [hl, e0]; exact h.c0, e1, e2, e3, e4, e5, fun j hj => ?_, fp, fg, h.ne, Nat.lt_of_lt_of_le h.plt hz, Nat.lt_of_lt_of_le h.glt hz, by rw [hl]; exact h.pos, by rw [hl]; exact h.max⟩
  have hj' : j < (d.secs.set i s).length := by rw [← hsec]; exact hj
  have ej : d'.secs[j] = (d.secs.set i s)[j] := by congr 1
  have hj2 : j < d.secs.length := by rwa [List.length_set] at hj'
  by_cases hij : i = j
  · subst hij
    have e : d'.secs[i] = s := by rw [ej, List.getElem_set_self]
    rw [e]
    exact ⟨hs, es⟩
  · have e : d'.secs[j] = d.secs[j] := by rw [ej, List.getElem_set_ne hij]
    have h1 := h.secs j hj2
    rw [e]
    exact ⟨h1.1, h1.2.keep_far fun k hk1 hk2 => eg k (by have := h1.1; omega)⟩
end Go.Proofs.Ytgaplcgenlphdaa
