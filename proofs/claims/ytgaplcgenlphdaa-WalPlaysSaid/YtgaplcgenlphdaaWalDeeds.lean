/- THE LAW's WORLD: write. -/
import Derived.Test.YtgaplcgenlphdaaWalWorld
namespace Go.Proofs.Ytgaplcgenlphdaa
open Go.RowKit Mem Wal

/-- The log lives and says M; or the power is gone, and the disk says M, or N. -/
def St (d : DS) (L : LS) (M N : Secs) (dead : Bool) : Prop := (dead = false ∧ Live d L M) ∨ (dead = true ∧ d.down = true ∧ Either d M N ∧ L.side ≤ 1 ∧ L.used ≤ 126)
theorem St.n7 {d : DS} {L : LS} {M N : Secs} {dead : Bool} (h : St d L M N dead) : 7 ≤ d.secs.length ∧ d.secs.length ≤ 256 := by
  rcases h with ⟨_, h⟩ | ⟨_, _, h, _⟩
  · exact ⟨h.n7, h.n256⟩
  · exact ⟨h.n7, h.n256⟩
theorem St.either {d : DS} {L : LS} {M N : Secs} {dead : Bool} (h : St d L M N dead) : Either d M (if dead then N else M) := by
  rcases h with ⟨rfl, h⟩ | ⟨rfl, _, h, _⟩
  · exact h.either M
  · exact h
def wantOf (dead : Bool) (H : Nat) (R next : Secs) : Int := if dead then 26 else if tooLong R then 4 else if H < sizes next then 6 else 0
def PutOut (w : World) (q p g : Nat) (d : DS) (M N next : Secs) (dead : Bool) (want : Int) (e : Ending) (w' : World) : Prop :=
  ∃ f d' L', e = .returned (.int .i64 f) ∧ IsDisk w' p g d' ∧ IsLog w' q p L'.side L'.used L'.dead ∧ Chg [p, g, q] w w' ∧ d'.secs.length = d.secs.length ∧ d'.writes ≤ d.writes + 256 ∧
    ((f = want ∧ want ≠ 0 ∧ St d' L' M N dead) ∨ (f = 0 ∧ want = 0 ∧ dead = false ∧ Live d' L' next) ∨ (f = 26 ∧ want = 0 ∧ dead = false ∧ d'.down = true ∧ Either d' M next ∧ L'.side ≤ 1 ∧ L'.used ≤ 126))
theorem puts_out {w : World} {q p g at_ : Nat} {d : DS} {L : LS} {M N R next : Secs} (hv : Live d L M) (hat : at_ + sizes R = sizes next) {e : Ending} {w' : World} (h : Puts w q p g d L M next R at_ e w') :
    PutOut w q p g d M N next false (wantOf false (half d.secs.length) R next) e w' := by
  obtain ⟨hc, ⟨h1, he, i, l⟩ | ⟨h1, h2, he, i, l⟩ | ⟨h1, h2, d', L', he, i, l, v, n, wr, _⟩ | ⟨h1, h2, _, d', L', he, i, l, _, k1, k2, k3, ei, n, wr, _⟩⟩ := h
  · have hw : wantOf false (half d.secs.length) R next = 4 := by unfold wantOf; simp [h1]
    rw [hw]
    exact ⟨4, d, L, he, i, l, hc, rfl, by omega, .inl ⟨rfl, by decide, .inl ⟨rfl, hv⟩⟩⟩
  · have hw : wantOf false (half d.secs.length) R next = 6 := by unfold wantOf; rw [hat] at h2; simp [h1, h2]
    rw [hw]
    exact ⟨6, d, L, he, i, l, hc, rfl, by omega, .inl ⟨rfl, by decide, .inl ⟨rfl, hv⟩⟩⟩
  · have hw : wantOf false (half d.secs.length) R next = 0 := by unfold wantOf; rw [hat] at h2; simp [h1]; omega
    rw [hw]
    exact ⟨0, d', L', he, i, l, hc, n, wr, .inr (.inl ⟨rfl, rfl, rfl, v⟩)⟩
  · have hw : wantOf false (half d.secs.length) R next = 0 := by unfold wantOf; rw [hat] at h2; simp [h1]; omega
    rw [hw]
    exact ⟨26, d', L', he, i, l, hc, n, wr, .inr (.inr ⟨rfl, rfl, rfl, k3, ei, k1, k2⟩)⟩
theorem dead_out {w : World} {q p g side at_ : Nat} {d : DS} {L : LS} {M N R next : Secs} (hdn : d.down = true) (he : Either d M N) (h1 : L.side ≤ 1) (h2 : L.used ≤ 126) {e : Ending} {w' : World} (h : PutAny w q p g (putD d L R side at_) e w') :
    PutOut w q p g d M N next true (wantOf true (half d.secs.length) R next) e w' := by
  have hp : putD d L R side at_ = (d, ⟨L.side, L.used, true⟩, 26) := by unfold putD; rw [if_pos (.inr hdn)]
  rw [hp] at h
  obtain ⟨k1, k2, k3, k4⟩ := h
  have hw : wantOf true (half d.secs.length) R next = 26 := rfl
  rw [hw]
  exact ⟨26, d, ⟨L.side, L.used, true⟩, k1, k2, k3, k4, rfl, by omega, .inl ⟨rfl, by decide, .inr ⟨rfl, hdn, he, h1, h2⟩⟩⟩
section
variable {w : World} {q p g : Nat} {d : DS} {L : LS} {M N : Secs} {dead : Bool}
theorem replace_out (h : St d L M N dead) (hl : IsLog w q p L.side L.used L.dead) (hi : IsDisk w p g d) (hqp : q ≠ p) (hqg : q ≠ g) (A : Option Addr) (n c : Nat) (R : Secs) (hr : RsX w [p, g, q] A n R) (hn : n ≤ 100000) (hwr : d.writes < 800000) :
    Calls Try.prog 18 #[.pointer (some ⟨q, 0, none⟩), .slice A n c] w (PutOut w q p g d M N R dead (wantOf dead (half d.secs.length) R R)) := by
  have h7 := h.n7.1
  rcases h with ⟨rfl, hv⟩ | ⟨rfl, hdn, he, h1, h2⟩
  · exact (replace_live hl hi hqp hqg hv A n c R hr hn hwr).mono fun e w' hx => puts_out hv (by omega) hx
  · exact (replace_any hl hi hqp hqg h7 h1 A n c R hr hn (by omega)).mono fun e w' hx => dead_out hdn he h1 h2 (L := L) hx
theorem sizes_append (a b : Secs) : sizes (a ++ b) = sizes a + sizes b := by simp [sizes]
theorem append_out (h : St d L M N dead) (hl : IsLog w q p L.side L.used L.dead) (hi : IsDisk w p g d) (hqp : q ≠ p) (hqg : q ≠ g) (A : Option Addr) (n c : Nat) (r : List UInt8) (hr : Bs w w.heap.size A n r) (hn : n ≤ 1099511627776) (hwr : d.writes < 800000) :
    Calls Try.prog 14 #[.pointer (some ⟨q, 0, none⟩), .slice A n c] w (PutOut w q p g d M N (M ++ [r]) dead (wantOf dead (half d.secs.length) [r] (M ++ [r]))) := by
  have h7 := h.n7.1
  rcases h with ⟨rfl, hv⟩ | ⟨rfl, hdn, he, h1, h2⟩
  · exact (append_live hl hi hqp hqg hv A n c r hr hn hwr).mono fun e w' hx => puts_out hv (by rw [sizes_append, hv.sizes.1]) hx
  · exact (append_any hl hi hqp hqg h7 h1 h2 A n c r hr hn (by omega)).mono fun e w' hx => dead_out hdn he h1 h2 (L := L) hx
end
/-- 'w.R.Dead = true', 'w.R.Other = ..', 'w.R.L = ..'. -/
theorem PW.setDead {w : World} {u p g q : Nat} {d : DS} {H : Nat} {Lg : Value} {M N : Secs} {dead : Bool} (h : PW w u p g q d H Lg M N dead) : PW (w.setCell ⟨u, 5, none⟩ (.bool true)) u p g q d H Lg M N true := by
  have hc := chg_set w u 5 (.bool true)
  have hup := h.hup
  have hug := h.hug
  obtain ⟨A3, c3, e3, t3⟩ := h.c3
  obtain ⟨A4, c4, e4, t4⟩ := h.c4
  have k : ∀ o, 5 ≠ o → (w.setCell ⟨u, 5, none⟩ (.bool true)).cell? ⟨u, o, none⟩ = w.cell? ⟨u, o, none⟩ := fun o ho => setc_ne _ _ _ _ _ ho
  have hc2 : Chg [u, p, g, q] w (w.setCell ⟨u, 5, none⟩ (.bool true)) := hc.mono (by intro s hs; simp at hs ⊢; exact .inl hs)
  exact ⟨(k 0 (by omega)).trans h.c0, (k 1 (by omega)).trans h.c1, (k 2 (by omega)).trans h.c2, ⟨A3, c3, (k 3 (by omega)).trans e3, t3.chg hc2⟩, ⟨A4, c4, (k 4 (by omega)).trans e4, t4.chg hc2⟩, setc_same _ _ _ _ _ h.c5, fun o => (World.frozen?_setCell _ _ _ _).trans (h.uf o), h.id.chg hc (by simp; omega) (by simp; omega), Nat.lt_of_lt_of_le h.ult hc.size, h.hup, h.hug, h.huq, h.ml, h.nl, h.mr, h.nr⟩
theorem PW.setOther {w : World} {u p g q : Nat} {d : DS} {H : Nat} {Lg : Value} {M N : Secs} {dead : Bool} (h : PW w u p g q d H Lg M N dead) {A : Option Addr} {n c : Nat} {R : Secs} (ht : TsX w [u, p, g, q] A n R) (hn : n ≤ 400) (hr : ∀ r ∈ R, r.length ≤ 1010) : PW (w.setCell ⟨u, 4, none⟩ (.slice A n c)) u p g q d H Lg M R dead := by
  have hc := chg_set w u 4 (.slice A n c)
  have hup := h.hup
  have hug := h.hug
  obtain ⟨A3, c3, e3, t3⟩ := h.c3
  obtain ⟨A4, c4, e4, t4⟩ := h.c4
  have hl : R.length = n := ht.1.len
  have k : ∀ o, 4 ≠ o → (w.setCell ⟨u, 4, none⟩ (.slice A n c)).cell? ⟨u, o, none⟩ = w.cell? ⟨u, o, none⟩ := fun o ho => setc_ne _ _ _ _ _ ho
  have hc2 : Chg [u, p, g, q] w (w.setCell ⟨u, 4, none⟩ (.slice A n c)) := hc.mono (by intro s hs; simp at hs ⊢; exact .inl hs)
  exact ⟨(k 0 (by omega)).trans h.c0, (k 1 (by omega)).trans h.c1, (k 2 (by omega)).trans h.c2, ⟨A3, c3, (k 3 (by omega)).trans e3, t3.chg hc2⟩, ⟨A, c, by rw [hl]; exact setc_same _ _ _ _ _ e4, by rw [hl]; exact ht.chg hc2⟩, (k 5 (by omega)).trans h.c5, fun o => (World.frozen?_setCell _ _ _ _).trans (h.uf o), h.id.chg hc (by simp; omega) (by simp; omega), Nat.lt_of_lt_of_le h.ult hc.size, h.hup, h.hug, h.huq, h.ml, by omega, h.mr, hr⟩
theorem PW.setM {w : World} {u p g q : Nat} {d : DS} {H : Nat} {Lg : Value} {M N : Secs} {dead : Bool} (h : PW w u p g q d H Lg M N dead) {A : Option Addr} {n c : Nat} {R : Secs} (ht : TsX w [u, p, g, q] A n R) (hn : n ≤ 200) (hr : ∀ r ∈ R, r.length ≤ 1010) : PW (w.setCell ⟨u, 3, none⟩ (.slice A n c)) u p g q d H Lg R N dead := by
  have hc := chg_set w u 3 (.slice A n c)
  have hup := h.hup
  have hug := h.hug
  obtain ⟨A3, c3, e3, t3⟩ := h.c3
  obtain ⟨A4, c4, e4, t4⟩ := h.c4
  have hl : R.length = n := ht.1.len
  have k : ∀ o, 3 ≠ o → (w.setCell ⟨u, 3, none⟩ (.slice A n c)).cell? ⟨u, o, none⟩ = w.cell? ⟨u, o, none⟩ := fun o ho => setc_ne _ _ _ _ _ ho
  have hc2 : Chg [u, p, g, q] w (w.setCell ⟨u, 3, none⟩ (.slice A n c)) := hc.mono (by intro s hs; simp at hs ⊢; exact .inl hs)
  exact ⟨(k 0 (by omega)).trans h.c0, (k 1 (by omega)).trans h.c1, (k 2 (by omega)).trans h.c2, ⟨A, c, by rw [hl]; exact setc_same _ _ _ _ _ e3, by rw [hl]; exact ht.chg hc2⟩, ⟨A4, c4, (k 4 (by omega)).trans e4, t4.chg hc2⟩, (k 5 (by omega)).trans h.c5, fun o => (World.frozen?_setCell _ _ _ _).trans (h.uf o), h.id.chg hc (by simp; omega) (by simp; omega), Nat.lt_of_lt_of_le h.ult hc.size, h.hup, h.hug, h.huq, by omega, h.nl, hr, h.nr⟩
end Go.Proofs.Ytgaplcgenlphdaa
