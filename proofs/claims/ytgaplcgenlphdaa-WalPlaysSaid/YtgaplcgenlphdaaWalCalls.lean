/- THE LOG's CALLS, told by records; the reference's functions; the law's example. -/
import Derived.Test.YtgaplcgenlphdaaWalPutW
import Derived.Test.YtgaplcgenlphdaaWalLaw
namespace Go.Proofs.Ytgaplcgenlphdaa
open Go.RowKit Mem Wal

/-- A log is told: (log, records, OK). -/
def OpenedLog (w : World) (p g : Nat) (d : DS) (A B : Secs) (e : Ending) (w' : World) : Prop :=
  ∃ d' L rs q A' n c xs, e = .returned (.tuple #[.pointer (some ⟨q, 0, none⟩), .slice A' n c, .int .i64 0]) ∧ n ≤ c ∧ IsDisk w' p g d' ∧ IsLog w' q p L.side L.used L.dead ∧ Live d' L rs ∧ (rs = A ∨ rs = B) ∧ w.heap.size ≤ q ∧
    Row w' w.heap.size [] (.slice A' n c) n xs rs ∧ d'.secs.length = d.secs.length ∧ d'.writes ≤ d.writes + 3 ∧ (d.left = none → d'.left = none) ∧ Chg [p, g] w w'
/-- The power has gone, or was gone. -/
def OpenedDown (w : World) (p g : Nat) (d : DS) (A B : Secs) (e : Ending) (w' : World) : Prop :=
  ∃ d', e = .returned (.tuple #[.pointer none, .slice none 0 0, .int .i64 26]) ∧ IsDisk w' p g d' ∧ d'.down = true ∧ Either d' A B ∧ d'.secs.length = d.secs.length ∧ d'.writes ≤ d.writes + 3 ∧ (d.down = false → d'.left = none ∧ d.left ≠ none) ∧ Chg [p, g] w w'
section
variable {w : World} {q p g s u : Nat} {b : Bool} {d : DS}
theorem open_either (h : IsDisk w p g d) {A B : Secs} (he : Either d A B) (hdn : d.down = false) (hwr : d.writes < 800000) : Calls Try.prog 9 #[.pointer (some ⟨p, 0, none⟩)] w fun e w' => OpenedLog w p g d A B e w' ∨ OpenedDown w p g d A B e w' := by
  refine (wopen_alive h he.n7 hdn (by omega)).mono ?_
  rintro e w' ⟨id, hc, ho⟩
  rcases openD_either he hdn with ⟨d', s, u, rs, a1, a2, a3, a4, a5, a6⟩ | ⟨d', a1, a2, a3, a4, a5, a6, a7⟩
  · rw [a1] at id ho
    rcases ho with ⟨x, hx, _⟩ | ⟨s', u', rs', q, A', n, c, xs, hx, hv, k1, k2, k3, k4⟩
    · cases hx
    · injection hx with hx
      simp only [Prod.mk.injEq] at hx
      obtain ⟨rfl, rfl, rfl⟩ := hx
      exact .inl ⟨d', ⟨s, u, false⟩, rs, q, A', n, c, xs, hv, k1, id, k2, a2, a3, k3, k4, a4, a5, a6, hc⟩
  · rw [a1] at id ho
    rcases ho with ⟨x, hx, hv⟩ | ⟨s', u', rs', q, A', n, c, xs, hx, _⟩
    · injection hx with hx
      subst hx
      exact .inr ⟨d', hv, id, a2, a3, a4, a5, fun _ => ⟨a6, a7⟩, hc⟩
    · cases hx
theorem open_down (h : IsDisk w p g d) {A B : Secs} (he : Either d A B) (hdn : d.down = true) : Calls Try.prog 9 #[.pointer (some ⟨p, 0, none⟩)] w (OpenedDown w p g d A B) := by
  refine (wopen_down h he.n7 hdn).mono ?_
  rintro e w' ⟨rfl, hb⟩
  exact ⟨d, rfl, h.chg (Chg.of_below (S := []) hb) (by simp) (by simp), hdn, he, rfl, by omega, (fun hx => by rw [hdn] at hx; cases hx), Chg.of_below hb⟩
/-- Where the power cannot go. -/
theorem open_sure (h : IsDisk w p g d) {A B : Secs} (he : Either d A B) (hdn : d.down = false) (hl : d.left = none) (hwr : d.writes < 800000) : Calls Try.prog 9 #[.pointer (some ⟨p, 0, none⟩)] w (OpenedLog w p g d A B) := by
  refine (open_either h he hdn hwr).mono ?_
  rintro e w' (h | ⟨_, _, _, _, _, _, _, h2, _⟩)
  · exact h
  · exact absurd hl (h2 hdn).2
theorem open_fresh {n : Nat} (h : IsDisk w p g (DS.fresh n)) (h7 : 7 ≤ n) (h256 : n ≤ 256) : Calls Try.prog 9 #[.pointer (some ⟨p, 0, none⟩)] w fun e w' =>
    ∃ d' q A' c xs, e = .returned (.tuple #[.pointer (some ⟨q, 0, none⟩), .slice A' 0 c, .int .i64 0]) ∧ IsDisk w' p g d' ∧ IsLog w' q p 0 0 false ∧ Live d' ⟨0, 0, false⟩ [] ∧ w.heap.size ≤ q ∧ Row w' w.heap.size [] (.slice A' 0 c) 0 xs [] ∧ d'.secs.length = n ∧ d'.writes ≤ 3 ∧ d'.left = none ∧ Chg [p, g] w w' := by
  obtain ⟨d', a1, a2, a3, a4, a5⟩ := fresh_live h7 h256
  refine (wopen_alive h (by simpa [DS.fresh] using h7) rfl (by simp [DS.fresh])).mono ?_
  rintro e w' ⟨id, hc, ho⟩
  rw [a1] at id ho
  rcases ho with ⟨x, hx, _⟩ | ⟨s', u', rs', q, A', n', c, xs, hx, hv, k1, k2, k3, k4⟩
  · cases hx
  · injection hx with hx
    simp only [Prod.mk.injEq] at hx
    obtain ⟨rfl, rfl, rfl⟩ := hx
    have h0 : n' = 0 := by
      have e1 := k4.own.1
      have e2 := k4.len
      simp at e2
      omega
    subst h0
    exact ⟨d', q, A', c, xs, hv, id, k2, a2, k3, k4, a3, a4, a5, hc⟩

/-- What a call that puts records tells of a log that lives: too long, no room, done, or the power went. -/
def Puts (w : World) (q p g : Nat) (d : DS) (L : LS) (A B rs : Secs) (at_ : Nat) (e : Ending) (w' : World) : Prop :=
  Chg [p, g, q] w w' ∧
  ((tooLong rs = true ∧ e = .returned (.int .i64 4) ∧ IsDisk w' p g d ∧ IsLog w' q p L.side L.used L.dead) ∨
   (tooLong rs = false ∧ half d.secs.length < at_ + sizes rs ∧ e = .returned (.int .i64 6) ∧ IsDisk w' p g d ∧ IsLog w' q p L.side L.used L.dead) ∨
   (tooLong rs = false ∧ at_ + sizes rs ≤ half d.secs.length ∧ ∃ (d' : DS) (L' : LS), e = .returned (.int .i64 0) ∧ IsDisk w' p g d' ∧ IsLog w' q p L'.side L'.used L'.dead ∧ Live d' L' B ∧ d'.secs.length = d.secs.length ∧ d'.writes ≤ d.writes + 256 ∧ (d.left = none → d'.left = none)) ∨
   (tooLong rs = false ∧ at_ + sizes rs ≤ half d.secs.length ∧ d.left ≠ none ∧ ∃ (d' : DS) (L' : LS), e = .returned (.int .i64 26) ∧ IsDisk w' p g d' ∧ IsLog w' q p L'.side L'.used L'.dead ∧ L'.dead = true ∧ L'.side ≤ 1 ∧ L'.used ≤ 126 ∧ d'.down = true ∧ Either d' A B ∧ d'.secs.length = d.secs.length ∧ d'.writes ≤ d.writes + 256 ∧ d'.left = none))
theorem puts_of {L : LS} {A B rs : Secs} {side at_ : Nat} (hv : Live d L A) (hB : (side = L.side ∧ at_ = L.used ∧ B = A ++ rs) ∨ (side = 1 - L.side ∧ at_ = 0 ∧ B = rs)) {e : Ending} {w' : World} (h : PutAny w q p g (putD d L rs side at_) e w') : Puts w q p g d L A B rs at_ e w' := by
  obtain ⟨he, id, il, hc⟩ := h
  refine ⟨hc, ?_⟩
  rcases putD_live hv hB with ⟨h1, h2⟩ | ⟨h1, h2, h3⟩ | ⟨h1, h2, ⟨d', L', h3, r⟩ | ⟨d', L', h3, r1, r2, r3, r4, r5, r6, r7, r8, r9⟩⟩
  · rw [h2] at he id il
    exact .inl ⟨h1, he, id, il⟩
  · rw [h3] at he id il
    exact .inr (.inl ⟨h1, h2, he, id, il⟩)
  · rw [h3] at he id il
    exact .inr (.inr (.inl ⟨h1, h2, d', L', he, id, il, r⟩))
  · rw [h3] at he id il
    exact .inr (.inr (.inr ⟨h1, h2, r9, d', L', he, id, il, r1, r2, r3, r4, r5, r6, r7, r8⟩))
theorem append_live {L : LS} {A : Secs} (hl : IsLog w q p L.side L.used L.dead) (h : IsDisk w p g d) (hqp : q ≠ p) (hqg : q ≠ g) (hv : Live d L A) (Ar : Option Addr) (n c : Nat) (r : List UInt8) (hr : Bs w w.heap.size Ar n r) (hn : n ≤ 1099511627776) (hwr : d.writes < 800000) :
    Calls Try.prog 14 #[.pointer (some ⟨q, 0, none⟩), .slice Ar n c] w (Puts w q p g d L A (A ++ [r]) [r] L.used) := by
  have hh := hv.half
  have h126 := half_bound h
  exact (append_any hl h hqp hqg hv.n7 hh.1 (by omega) Ar n c r hr hn (by omega)).mono fun e w' hx => puts_of hv (.inl ⟨rfl, rfl, rfl⟩) hx
theorem replace_live {L : LS} {A : Secs} (hl : IsLog w q p L.side L.used L.dead) (h : IsDisk w p g d) (hqp : q ≠ p) (hqg : q ≠ g) (hv : Live d L A) (Ar : Option Addr) (n c : Nat) (rs : Secs) (hr : RsX w [p, g, q] Ar n rs) (hn : n ≤ 100000) (hwr : d.writes < 800000) :
    Calls Try.prog 18 #[.pointer (some ⟨q, 0, none⟩), .slice Ar n c] w (Puts w q p g d L A rs rs 0) :=
  (replace_any hl h hqp hqg hv.n7 hv.half.1 Ar n c rs hr hn (by omega)).mono fun e w' hx => puts_of hv (.inr ⟨rfl, rfl, rfl⟩) hx
end

set_option maxRecDepth 100000 in
set_option maxHeartbeats 8000000 in
theorem lives_any (w : World) : Calls Try.prog 11 #[] w fun e w' => e = .returned (.bool true) ∧ Below w.heap.size w w' := by
  have kc := fun (w : World) (C : Array Value) (n c : Nat) => Lib.run_convert_bytes_const (P := Try.prog) w 33 5 C n c Try.underlying33 Try.underlying5
  have hnew := new_any 20 w (by omega) (by omega)
  have hsz : sizes [[(97 : UInt8)]] = 1 := by decide
  have htl : tooLong [[(97 : UInt8)]] = false := by decide
  go_enter Try.func11, Try.ntmps11
  go_wp2_with fail
  refine hnew.mono ?_
  rintro e w1 ⟨p, g, rfl, i1, hb1, hp, hg⟩
  go_wp2_with fail
  refine (open_fresh i1 (by omega) (by omega)).mono ?_
  rintro e w2 ⟨d2, q, A2, c2, xs2, rfl, i2, l2, v2, hq, _, n2, wr2, lf2, hc2⟩
  have hp1 := i1.plt
  have hg1 := i1.glt
  have hqp : q ≠ p := by omega
  have hqg : q ≠ g := by omega
  have hc12 : Chg [] w w2 := (Chg.of_below hb1).trans hc2 (by intro s hs; simp at hs; omega)
  obtain ⟨w3, hw3⟩ : ∃ w3, w2.alloc (.cells #[.int .u8 97] 5 (1, 2)) = w3 := ⟨_, rfl⟩
  have hb3 : Below w2.heap.size w2 w3 := by rw [← hw3]; exact (Below.refl _ _).alloc (Nat.le_refl _) _
  have hbs : Bs w3 w3.heap.size (some ⟨w2.heap.size, 0, none⟩) 1 [97] := by
    have := Bs.new w2 #[.int .u8 97] 5 (1, 2) 1 [97] rfl rfl
    rw [hw3] at this
    exact this.mono (by rw [← hw3]; simp)
  have happ := fun c => append_live (L := ⟨0, 0, false⟩) (l2.chg (Chg.of_below (S := []) hb3) (by simp)) (i2.chg (Chg.of_below (S := []) hb3) (by simp) (by simp)) hqp hqg v2 _ 1 c [97] hbs (by omega) (by omega)
  clear hnew i1 i2 l2 hbs
  go_wp2_with fail
  refine (happ _).mono ?_
  rintro e w4 ⟨hc4, ⟨h1, _⟩ | ⟨_, h1, _⟩ | ⟨_, _, d4, L4, rfl, i4, l4, v4, n4, wr4, lf4⟩ | ⟨_, _, h1, _⟩⟩
  · rw [htl] at h1; cases h1
  · rw [n2, hsz] at h1
    exact absurd h1 (by decide)
  · have hc14 : Chg [p, g, q] w2 w4 := (Chg.of_below hb3).and hc4
    have hu4 : L4.used = 1 := v4.sizes.1.trans hsz
    go_wp2_with fail
    refine (open_sure i4 (v4.either [[97]]) v4.dn (lf4 lf2) (by omega)).mono ?_
    rintro e w5 ⟨d5, L5, rs5, q5, A5, n5, c5, xs5, rfl, k5, i5, l5, v5, hrs, hq5, hrow5, n5', _, _, hc5⟩
    have hrs1 : rs5 = [[97]] := by rcases hrs with h | h <;> exact h
    subst hrs1
    have hn5 : n5 = 1 := by
      have e1 := hrow5.own.1
      have e2 := hrow5.len
      simp at e2
      omega
    subst hn5
    have hrsx := hrow5.rs (S := []) (by simp)
    obtain ⟨ad, A6, n6, c6, rfl, b1, b2, b3, b4, b5, b6, b7⟩ := hrsx.rd 0 (by simp)
    have hsp : ad.spot = none := by
      have := World.cell?_spot b3
      simpa [Addr.add] using this
    obtain ⟨blk, off, sp⟩ := ad
    simp only at hsp
    subst hsp
    have hcell : w5.cell? ⟨blk, off, none⟩ = some (.slice A6 n6 c6) := by simpa [Addr.add] using b3
    have hx := conv b6 c6
    have il := l4.chg hc5 (by simp; omega)
    have hu := used_any il
    rw [hu4] at hu
    have hh := half_any il i5 (by omega)
    rw [n5', n4, n2] at hh
    have hh8 : Wal.half 20 = 8 := rfl
    rw [hh8] at hh
    have hend : Below w.heap.size w w5 := by
      refine ((hc12.trans hc14 (by intro s hs; simp at hs; exact .inr (by omega))).trans hc5 (by intro s hs; simp at hs; exact .inr (by omega))).below (S := []) (by simp)
    have hstr : str ([[97]] : List (List UInt8))[0] = ⟨#[97]⟩ := rfl
    rw [hstr] at hx
    clear b3 b6 hrow5 hrsx v5 i5 l5 il v4 l4 i4 hrs hstr
    go_wp2_with fail
    refine hh.mono ?_
    rintro e w6 ⟨rfl, rfl⟩
    go_wp2_with fail
    refine hu.mono ?_
    rintro e w6 ⟨rfl, rfl⟩
    go_wp2
    go_ret
    exact ⟨rfl, hend⟩
  · exact absurd lf2 h1
end Go.Proofs.Ytgaplcgenlphdaa
