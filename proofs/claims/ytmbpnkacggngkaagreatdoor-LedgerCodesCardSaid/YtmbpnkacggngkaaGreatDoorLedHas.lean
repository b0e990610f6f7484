/- LISTS OF STRUCTS in memory, and a ledger. -/
import Derived.Test.YtmbpnkacggngkaaGreatDoorLedEqs
import Derived.Test.YtmbpnkacggngkaaGreatDoorLedLaw
import Derived.Test.YtmbpnkacggngkaaGreatDoorLedListR
import Derived.Test.YtmbpnkacggngkaaGreatDoorTexts
namespace Go.Proofs.YtmbpnkacggngkaaGreatDoor
open Go.RowKit Mem Led

/-- The cells of a list's elements. -/
def rows {α : Type} (enc : α → List Value) (L : List α) : List Value := (L.map enc).flatten
section
variable {α : Type} {enc : α → List Value} {k : Nat}
theorem rows_cons (x : α) (L : List α) : rows enc (x :: L) = enc x ++ rows enc L := by simp [rows]
theorem rows_append (L M : List α) : rows enc (L ++ M) = rows enc L ++ rows enc M := by simp [rows]
theorem rows_length (hk : ∀ x, (enc x).length = k) : ∀ L : List α, (rows enc L).length = L.length * k
  | [] => by simp [rows]
  | x :: L => by
    rw [rows_cons, List.length_append, hk, rows_length hk L, List.length_cons, Nat.succ_mul, Nat.add_comm]
theorem rows_at (hk : ∀ x, (enc x).length = k) : ∀ {L : List α} {i : Nat} (h : i < L.length) {j : Nat}, j < k → (rows enc L)[i * k + j]? = (enc L[i])[j]?
  | x :: L, 0, h, j, hj => by
    rw [rows_cons, Nat.zero_mul, Nat.zero_add, List.getElem?_append_left (by rw [hk]; exact hj)]
    rfl
  | x :: L, i + 1, h, j, hj => by
    have ih := rows_at hk (L := L) (i := i) (by simpa using h) hj
    rw [rows_cons, List.getElem?_append_right (by rw [hk, Nat.succ_mul]; omega), hk, show (i + 1) * k + j - k = i * k + j by rw [Nat.succ_mul]; omega, ih]
    rfl
theorem rows_take (hk : ∀ x, (enc x).length = k) (L : List α) (i : Nat) : (rows enc L).take (i * k) = rows enc (L.take i) := by
  by_cases h : i ≤ L.length
  · have e : rows enc L = rows enc (L.take i) ++ rows enc (L.drop i) := by rw [← rows_append, List.take_append_drop]
    have hl : (rows enc (L.take i)).length = i * k := by rw [rows_length hk, List.length_take, Nat.min_eq_left h]
    rw [e, List.take_append_of_le_length (by omega), List.take_of_length_le (by omega)]
  · rw [List.take_of_length_le (i := i) (by omega), List.take_of_length_le]
    rw [rows_length hk]
    exact Nat.mul_le_mul_right _ (by omega)
theorem rows_drop (hk : ∀ x, (enc x).length = k) (L : List α) (i : Nat) : (rows enc L).drop (i * k) = rows enc (L.drop i) := by
  by_cases h : i ≤ L.length
  · have e : rows enc L = rows enc (L.take i) ++ rows enc (L.drop i) := by rw [← rows_append, List.take_append_drop]
    have hl : (rows enc (L.take i)).length = i * k := by rw [rows_length hk, List.length_take, Nat.min_eq_left h]
    rw [e, List.drop_append_of_le_length (by omega), List.drop_of_length_le (by omega), List.nil_append]
  · rw [List.drop_of_length_le (i := i) (by omega), List.drop_of_length_le]
    · simp [rows]
    rw [rows_length hk]
    exact Nat.mul_le_mul_right _ (by omega)
end
/-- A slice reads as these elements. -/
def Es {α : Type} (enc : α → List Value) (k : Nat) (w : World) (A : Option Addr) (n : Nat) (L : List α) : Prop := Vs w w.heap.size k A n (rows enc L)
section
variable {α : Type} {enc : α → List Value} {k n : Nat} {w w' : World} {A : Option Addr} {L : List α}
theorem Es.len (hk : ∀ x, (enc x).length = k) (h0 : 0 < k) (h : Es enc k w A n L) : L.length = n := by
  have := Vs.len h
  rw [rows_length hk] at this
  exact Nat.eq_of_mul_eq_mul_right h0 this
theorem Es.lit (hk : ∀ x, (enc x).length = k) (h0 : 0 < k) (h : Es enc k w A n L) {i : Nat} (hi : i < L.length) : ∃ b off, A = some ⟨b, off, none⟩ ∧ b < w.heap.size ∧ ∀ j u, (enc L[i])[j]? = some u → w.cell? ⟨b, off + (i * k + j), none⟩ = some u := by
  obtain ⟨b, off, h1, h2, h3⟩ := Vs.lit h (by rw [rows_length hk]; exact Nat.mul_pos (by omega) h0)
  refine ⟨b, off, h1, h2, fun j u hj => h3 _ _ ?_⟩
  have hjk : j < k := by
    have := (List.getElem?_eq_some_iff.1 hj).1
    rwa [hk] at this
  rw [rows_at hk hi hjk, hj]
theorem Es.below (h : Es enc k w A n L) (hb : Below w.heap.size w w') : Es enc k w' A n L := (Vs.below h hb).mono hb.size
theorem Es.empty (w : World) (A : Option Addr) : Es enc k w A 0 [] := Vs.empty _ _ _ _
end
/-- A slice that may be: it has room for what it holds. -/
def Fit (n c : Nat) (A : Option Addr) : Prop := n ≤ c ∧ c ≤ 9223372036854775807 ∧ (A = none → n = 0)
/-- A value is a slice of these texts; of these keys; of these elements. -/
def TextsAt (w : World) (v : Value) (L : List Txt) : Prop := ∃ A n c, v = .slice A n c ∧ Fit n c A ∧ Ts w A n L
def ElemsAt {α : Type} (enc : α → List Value) (k : Nat) (w : World) (v : Value) (L : List α) : Prop := ∃ A n c, v = .slice A n c ∧ Fit n c A ∧ Es enc k w A n L
theorem TextsAt.below {w w' : World} {v : Value} {L : List Txt} (h : TextsAt w v L) (hb : Below w.heap.size w w') : TextsAt w' v L := by
  obtain ⟨A, n, c, h1, h2, h3⟩ := h
  exact ⟨A, n, c, h1, h2, (Vs.below h3 hb).mono hb.size⟩
theorem ElemsAt.below {α : Type} {enc : α → List Value} {k : Nat} {w w' : World} {v : Value} {L : List α} (h : ElemsAt enc k w v L) (hb : Below w.heap.size w w') : ElemsAt enc k w' v L := by
  obtain ⟨A, n, c, h1, h2, h3⟩ := h
  exact ⟨A, n, c, h1, h2, h3.below hb⟩
/-- An entry with the slice of its selectors; a bundle with that of its keys. -/
def entRow (p : Led.Entry × Value) : List Value := [nm p.1.n, tx p.1.path, tx p.1.parent, nm p.1.ttl, p.2]
def bunRow (p : Led.Bundle × Value) : List Value := [tx p.1.domain, nm p.1.number, p.2]
theorem jwkRow_len (x : Led.Jwk) : (jwkRow x).length = 2 := rfl
theorem nodeRow_len (x : Led.Node) : (nodeRow x).length = 5 := rfl
theorem joinRow_len (x : Led.Join) : (joinRow x).length = 4 := rfl
theorem keyRow_len (x : Led.Key) : (keyRow x).length = 4 := rfl
theorem entRow_len (x : Led.Entry × Value) : (entRow x).length = 5 := rfl
theorem bunRow_len (x : Led.Bundle × Value) : (bunRow x).length = 3 := rfl
/-- A ledger in memory, with the slices of its entries and bundles. -/
structure LgAt (w : World) (cs : List Value) (L : Led.Ledger) (E : List (Led.Entry × Value)) (U : List (Led.Bundle × Value)) : Prop where
  cells : ∃ vE vN vB vJ vK vU, cs = [vE, vN, vB, vJ, vK, vU] ∧ ElemsAt entRow 5 w vE E ∧ ElemsAt nodeRow 5 w vN L.nodes ∧ TextsAt w vB L.bans ∧ ElemsAt joinRow 4 w vJ L.joins ∧ ElemsAt keyRow 4 w vK L.keys ∧ ElemsAt bunRow 3 w vU U
  ents : E.map Prod.fst = L.entries
  buns : U.map Prod.fst = L.bundles
  sels : ∀ p ∈ E, TextsAt w p.2 p.1.sels
  keyss : ∀ p ∈ U, ElemsAt jwkRow 2 w p.2 p.1.keys
theorem LgAt.below {w w' : World} {cs : List Value} {L : Led.Ledger} {E : List (Led.Entry × Value)} {U : List (Led.Bundle × Value)} (h : LgAt w cs L E U) (hb : Below w.heap.size w w') : LgAt w' cs L E U := by
  obtain ⟨⟨vE, vN, vB, vJ, vK, vU, h0, h1, h2, h3, h4, h5, h6⟩, e, u, s, k⟩ := h
  exact ⟨⟨vE, vN, vB, vJ, vK, vU, h0, h1.below hb, h2.below hb, h3.below hb, h4.below hb, h5.below hb, h6.below hb⟩, e, u, fun p hp => (s p hp).below hb, fun p hp => (k p hp).below hb⟩
theorem jv_rows (L : List Led.Jwk) : jv L = rows jwkRow L := rfl
end Go.Proofs.YtmbpnkacggngkaaGreatDoor
