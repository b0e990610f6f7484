/- WHATEVER IS ASKED of a disk, and of the reference's: one contract each. -/
import Derived.Test.YtkeblekgjcoheaaDiskRefNew
namespace Go.Proofs.Ytkeblekgjcoheaa
open Go.RowKit Mem

section
variable {w : World} {p g : Nat} {d : DS}
theorem write_any (h : IsDisk w p g d) (i : Int) (A : Option Addr) (n c : Nat) (l : List UInt8) (hk : ∀ W, Chg [p, g] w W → Bs W W.heap.size A n l) (hwr : d.writes < 4611686018427387904) :
    Calls Try.prog 8 #[.pointer (some ⟨p, 0, none⟩), .int .i64 i, .slice A n c] w fun e w' => e = .returned (.int .i64 (d.writeErr i l)) ∧ IsDisk w' p g (d.write i l) ∧ Chg [p, g] w w' := by
  have hln : l.length = n := (hk w (Chg.refl _ _)).len
  by_cases hb : d.bad i l
  · have e1 : d.writeErr i l = 1 := by unfold DS.writeErr; rw [if_pos hb]
    have e2 : d.write i l = d := by unfold DS.write; rw [if_pos hb]
    rw [e1, e2]
    by_cases hi : i < 0 ∨ (d.secs.length : Int) ≤ i
    · exact (write_bad h i A n c hi).mono fun _ _ ⟨he, hw⟩ => by subst hw; exact ⟨he, h, Chg.refl _ _⟩
    · unfold DS.bad at hb
      exact (write_long h i A n c (by omega) (by omega) (by omega)).mono fun _ _ ⟨he, hw⟩ => by subst hw; exact ⟨he, h, Chg.refl _ _⟩
  · have hb' := hb
    unfold DS.bad at hb'
    by_cases hdn : d.down = true
    · have e1 : d.writeErr i l = 26 := by unfold DS.writeErr; rw [if_neg hb, if_pos hdn]
      have e2 : d.write i l = d := by unfold DS.write; rw [if_neg hb, if_pos hdn]
      rw [e1, e2]
      exact (write_down h i A n c (by omega) (by omega) (by omega) hdn).mono fun _ _ ⟨he, hw⟩ => by subst hw; exact ⟨he, h, Chg.refl _ _⟩
    · obtain ⟨k, rfl⟩ := Int.eq_ofNat_of_zero_le (show 0 ≤ i by omega)
      have hdn' : d.down = false := by simpa using hdn
      cases ht : d.tears with
      | true =>
        have e1 : d.writeErr k l = 26 := by unfold DS.writeErr; rw [if_neg hb, if_neg hdn, if_pos ht]
        have e2 : d.write k l = { secs := d.secs.set k d.torn, writes := d.writes + 1, down := true, left := none } := by unfold DS.write; rw [if_neg hb, if_neg hdn, if_pos ht]; rfl
        rw [e1, e2]
        exact write_torn h k A n c (by omega) (by omega) hdn' _ (DS.tears_some ht) hwr
      | false =>
        have e1 : d.writeErr k l = 0 := by unfold DS.writeErr; rw [if_neg hb, if_neg hdn, ht]; rfl
        have e2 : d.write k l = { secs := d.secs.set k (fill l), writes := d.writes + 1, down := false, left := d.left.map fun x => (x.1 - 1, x.2) } := by unfold DS.write; rw [if_neg hb, if_neg hdn, ht]; rfl
        rw [e1, e2]
        exact write_ok h k A n c l hk (by omega) (by omega) hdn' (DS.tears_not ht) hwr
/-- (bytes, error), the bytes new. -/
def ReadAny (w : World) (l : List UInt8) (x : Int) (e : Ending) (w' : World) : Prop :=
  ∃ A n c, e = .returned (.tuple #[.slice A n c, .int .i64 x]) ∧ n ≤ c ∧ n ≤ 128 ∧ w'.ownsRow w.heap.size 5 1 (.slice A n c) n (bv l) ∧ Below w.heap.size w w'
theorem read_any (h : IsDisk w p g d) (i : Int) : Calls Try.prog 14 #[.pointer (some ⟨p, 0, none⟩), .int .i64 i] w (ReadAny w (d.read i) (d.readErr i)) := by
  by_cases hb : i < 0 ∨ (d.secs.length : Int) ≤ i
  · have e1 : d.readErr i = 1 := by unfold DS.readErr; rw [if_pos hb]
    have e2 : d.read i = [] := by unfold DS.read; rw [if_pos hb]
    rw [e1, e2]
    exact (read_bad h i hb).mono fun _ _ ⟨he, hw⟩ => by subst hw; exact ⟨none, 0, 0, he, by omega, by omega, World.ownsRow_nil _ _ _ _, Below.refl _ _⟩
  · by_cases hdn : d.down = true
    · have e1 : d.readErr i = 26 := by unfold DS.readErr; rw [if_neg hb, if_pos hdn]
      have e2 : d.read i = [] := by unfold DS.read; rw [if_neg hb, if_pos hdn]
      rw [e1, e2]
      exact (read_down h i (by omega) (by omega) hdn).mono fun _ _ ⟨he, hw⟩ => by subst hw; exact ⟨none, 0, 0, he, by omega, by omega, World.ownsRow_nil _ _ _ _, Below.refl _ _⟩
    · obtain ⟨k, rfl⟩ := Int.eq_ofNat_of_zero_le (show 0 ≤ i by omega)
      have hk : k < d.secs.length := by omega
      have e1 : d.readErr k = 0 := by unfold DS.readErr; rw [if_neg hb, if_neg hdn]
      have e2 : d.read k = d.secs[k] := by unfold DS.read; rw [if_neg hb, if_neg hdn, Int.toNat_natCast]; simp [hk]
      rw [e1, e2]
      exact (read_ok h k hk (by simpa using hdn)).mono fun _ _ ⟨A, c, he, h1, _, h3, h4⟩ => ⟨A, 128, c, he, h1, by omega, h3, h4⟩
end
section
variable {w : World} {q r : Nat} {d : DS}
theorem refwrite_any (h : IsRef w q r d) (i : Int) (A : Option Addr) (n c : Nat) (l : List UInt8) (hk : ∀ W, Chg [q, r] w W → Bs W W.heap.size A n l) (hwr : d.writes < 4611686018427387904) :
    Calls Try.prog 22 #[.pointer (some ⟨q, 0, none⟩), .int .i64 i, .slice A n c] w fun e w' => e = .returned (.int .i64 (d.writeErr i l)) ∧ IsRef w' q r (d.write i l) ∧ Chg [q, r] w w' := by
  have hln : l.length = n := (hk w (Chg.refl _ _)).len
  by_cases hb : d.bad i l
  · have e1 : d.writeErr i l = 1 := by unfold DS.writeErr; rw [if_pos hb]
    have e2 : d.write i l = d := by unfold DS.write; rw [if_pos hb]
    rw [e1, e2]
    by_cases hi : i < 0 ∨ (d.secs.length : Int) ≤ i
    · exact (refwrite_bad h i A n c hi).mono fun _ _ ⟨he, hw⟩ => by subst hw; exact ⟨he, h, Chg.refl _ _⟩
    · unfold DS.bad at hb
      exact (refwrite_long h i A n c (by omega) (by omega) (by omega)).mono fun _ _ ⟨he, hw⟩ => by subst hw; exact ⟨he, h, Chg.refl _ _⟩
  · have hb' := hb
    unfold DS.bad at hb'
    by_cases hdn : d.down = true
    · have e1 : d.writeErr i l = 26 := by unfold DS.writeErr; rw [if_neg hb, if_pos hdn]
      have e2 : d.write i l = d := by unfold DS.write; rw [if_neg hb, if_pos hdn]
      rw [e1, e2]
      exact (refwrite_down h i A n c (by omega) (by omega) (by omega) hdn).mono fun _ _ ⟨he, hw⟩ => by subst hw; exact ⟨he, h, Chg.refl _ _⟩
    · obtain ⟨k, rfl⟩ := Int.eq_ofNat_of_zero_le (show 0 ≤ i by omega)
      have hdn' : d.down = false := by simpa using hdn
      cases ht : d.tears with
      | true =>
        have e1 : d.writeErr k l = 26 := by unfold DS.writeErr; rw [if_neg hb, if_neg hdn, if_pos ht]
        have e2 : d.write k l = { secs := d.secs.set k d.torn, writes := d.writes + 1, down := true, left := none } := by unfold DS.write; rw [if_neg hb, if_neg hdn, if_pos ht]; rfl
        rw [e1, e2]
        exact refwrite_torn h k A n c (by omega) (by omega) hdn' _ (DS.tears_some ht) hwr
      | false =>
        have e1 : d.writeErr k l = 0 := by unfold DS.writeErr; rw [if_neg hb, if_neg hdn, ht]; rfl
        have e2 : d.write k l = { secs := d.secs.set k (fill l), writes := d.writes + 1, down := false, left := d.left.map fun x => (x.1 - 1, x.2) } := by unfold DS.write; rw [if_neg hb, if_neg hdn, ht]; rfl
        rw [e1, e2]
        exact refwrite_ok h k A n c l hk (by omega) (by omega) hdn' (DS.tears_not ht) hwr
theorem refread_any (h : IsRef w q r d) (i : Int) : Calls Try.prog 23 #[.pointer (some ⟨q, 0, none⟩), .int .i64 i] w fun e w' => e = .returned (.tuple #[.string (str (d.read i)), .int .i64 (d.readErr i)]) ∧ w = w' := by
  by_cases hb : i < 0 ∨ (d.secs.length : Int) ≤ i
  · have e1 : d.readErr i = 1 := by unfold DS.readErr; rw [if_pos hb]
    have e2 : d.read i = [] := by unfold DS.read; rw [if_pos hb]
    rw [e1, e2]
    exact refread_bad h i hb
  · by_cases hdn : d.down = true
    · have e1 : d.readErr i = 26 := by unfold DS.readErr; rw [if_neg hb, if_pos hdn]
      have e2 : d.read i = [] := by unfold DS.read; rw [if_neg hb, if_pos hdn]
      rw [e1, e2]
      exact refread_down h i (by omega) (by omega) hdn
    · obtain ⟨k, rfl⟩ := Int.eq_ofNat_of_zero_le (show 0 ≤ i by omega)
      have hk : k < d.secs.length := by omega
      have e1 : d.readErr k = 0 := by unfold DS.readErr; rw [if_neg hb, if_neg hdn]
      have e2 : d.read k = d.secs[k] := by unfold DS.read; rw [if_neg hb, if_neg hdn, Int.toNat_natCast]; simp [hk]
      rw [e1, e2]
      exact refread_ok h k hk (by simpa using hdn)
end

/-- A []byte in one block that has not turned. -/
theorem bs_chgAt {S : List Nat} {w W : World} {B b o n : Nat} {l : List UInt8} (h : Bs w B (some ⟨b, o, none⟩) n l) (hc : Chg S w W) (hb : b ∉ S) (hlt : b < w.heap.size) : Bs W W.heap.size (some ⟨b, o, none⟩) n l := by
  refine ⟨Vs.len h, fun j u hj => ?_⟩
  obtain ⟨ad, e, _, hcell⟩ := Vs.rd h j u hj
  injection e with e
  subst e
  refine ⟨_, rfl, Nat.lt_of_lt_of_le hlt hc.size, ?_⟩
  have hblk : ((⟨b, o, none⟩ : Addr).add j).block = b := block_add _ _
  rw [hc.cell (by rw [hblk]; exact hlt) (by rw [hblk]; exact hb)]
  exact hcell
end Go.Proofs.Ytkeblekgjcoheaa
