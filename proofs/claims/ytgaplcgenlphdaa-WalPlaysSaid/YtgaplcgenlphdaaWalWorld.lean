/- THE LAW's WORLD: a disk, its log, what must be. -/
import Derived.Test.YtgaplcgenlphdaaWalTorn
namespace Go.Proofs.Ytgaplcgenlphdaa
open Go.RowKit Mem Wal

/-- Texts none of whose blocks is in S. -/
def TsX (w : World) (S : List Nat) (A : Option Addr) (n : Nat) (L : Secs) : Prop := Ts w A n L ∧ ∀ a, A = some a → 0 < n → a.block ∉ S
theorem TsX.chg {w w' : World} {S : List Nat} {A : Option Addr} {n : Nat} {L : Secs} (h : TsX w S A n L) (hc : Chg S w w') : TsX w' S A n L := ⟨h.1.chg h.2 hc, h.2⟩
theorem TsX.of_own {w : World} {base c n : Nat} {S : List Nat} {A : Option Addr} {L : Secs} {e : TypeId} (h : w.ownsRow base e 1 (.slice A n c) n (tv L)) (hS : ∀ s ∈ S, s < base) : TsX w S A n L :=
  ⟨Ts.of_own h, fun a ha hn hm => by
    obtain ⟨g, hg, h1, _⟩ := own_some h hn
    rw [ha] at hg
    injection hg with hg
    subst hg
    have := hS _ hm
    simp at this
    omega⟩
theorem Ts.drewN' {w : World} {A : Option Addr} {n : Nat} {L : Secs} (h : Ts w A n L) (k : Nat) : Ts (w.drewN k) A n L := Vs.drewN h k
structure PW (w : World) (u p g q : Nat) (d : DS) (H : Nat) (Lg : Value) (M N : Secs) (dead : Bool) : Prop where
  c0 : w.cell? ⟨u, 0, none⟩ = some (.pointer (some ⟨p, 0, none⟩))
  c1 : w.cell? ⟨u, 1, none⟩ = some Lg
  c2 : w.cell? ⟨u, 2, none⟩ = some (.int .i64 (H : Int))
  c3 : ∃ A c, w.cell? ⟨u, 3, none⟩ = some (.slice A M.length c) ∧ TsX w [u, p, g, q] A M.length M
  c4 : ∃ A c, w.cell? ⟨u, 4, none⟩ = some (.slice A N.length c) ∧ TsX w [u, p, g, q] A N.length N
  c5 : w.cell? ⟨u, 5, none⟩ = some (.bool dead)
  uf : ∀ o, w.frozen? ⟨u, o, none⟩ = false
  id : IsDisk w p g d
  ult : u < w.heap.size
  hup : u ≠ p
  hug : u ≠ g
  huq : u ≠ q
  ml : M.length ≤ 200
  nl : N.length ≤ 400
  mr : ∀ r ∈ M, r.length ≤ 1010
  nr : ∀ r ∈ N, r.length ≤ 1010
theorem PW.chg {w w' : World} {u p g q : Nat} {d d' : DS} {H : Nat} {Lg : Value} {M N : Secs} {dead : Bool} (h : PW w u p g q d H Lg M N dead) (hc : Chg [p, g, q] w w') (hi : IsDisk w' p g d') : PW w' u p g q d' H Lg M N dead := by
  have hn : u ∉ [p, g, q] := by have := h.hup; have := h.hug; have := h.huq; simp; omega
  have k : ∀ o, w'.cell? ⟨u, o, none⟩ = w.cell? ⟨u, o, none⟩ := fun o => hc.cell (p := ⟨u, o, none⟩) h.ult hn
  have hc2 : Chg [u, p, g, q] w w' := hc.mono (by intro s hs; simp at hs ⊢; exact .inr hs)
  obtain ⟨A3, c3, e3, t3⟩ := h.c3
  obtain ⟨A4, c4, e4, t4⟩ := h.c4
  exact ⟨(k 0).trans h.c0, (k 1).trans h.c1, (k 2).trans h.c2, ⟨A3, c3, (k 3).trans e3, t3.chg hc2⟩, ⟨A4, c4, (k 4).trans e4, t4.chg hc2⟩, (k 5).trans h.c5, fun o => (hc.frozen (p := ⟨u, o, none⟩) h.ult hn).trans (h.uf o), hi, Nat.lt_of_lt_of_le h.ult hc.size, h.hup, h.hug, h.huq, h.ml, h.nl, h.mr, h.nr⟩
theorem PW.below {w w' : World} {u p g q : Nat} {d : DS} {H : Nat} {Lg : Value} {M N : Secs} {dead : Bool} (h : PW w u p g q d H Lg M N dead) (hb : Below w.heap.size w w') : PW w' u p g q d H Lg M N dead :=
  h.chg (Chg.of_below hb) (h.id.chg (Chg.of_below (S := []) hb) (by simp) (by simp))
theorem chg_set (w : World) (u k : Nat) (v : Value) : Chg [u] w (w.setCell ⟨u, k, none⟩ v) := (Chg.refl [u] w).setCell (p := ⟨u, k, none⟩) (.inl (by simp)) v
/-- 'w.L = ..'. -/
theorem PW.setL {w : World} {u p g q : Nat} {d : DS} {H : Nat} {Lg : Value} {M N : Secs} {dead : Bool} (h : PW w u p g q d H Lg M N dead) (v : Value) : PW (w.setCell ⟨u, 1, none⟩ v) u p g q d H v M N dead := by
  have hc := chg_set w u 1 v
  have hup := h.hup
  have hug := h.hug
  obtain ⟨A3, c3, e3, t3⟩ := h.c3
  obtain ⟨A4, c4, e4, t4⟩ := h.c4
  have k : ∀ o, 1 ≠ o → (w.setCell ⟨u, 1, none⟩ v).cell? ⟨u, o, none⟩ = w.cell? ⟨u, o, none⟩ := fun o ho => setc_ne _ _ _ _ _ ho
  have hc2 : Chg [u, p, g, q] w (w.setCell ⟨u, 1, none⟩ v) := hc.mono (by intro s hs; simp at hs ⊢; exact .inl hs)
  exact ⟨(k 0 (by omega)).trans h.c0, setc_same _ _ _ _ _ h.c1, (k 2 (by omega)).trans h.c2, ⟨A3, c3, (k 3 (by omega)).trans e3, t3.chg hc2⟩, ⟨A4, c4, (k 4 (by omega)).trans e4, t4.chg hc2⟩, (k 5 (by omega)).trans h.c5, fun o => (World.frozen?_setCell _ _ _ _).trans (h.uf o), h.id.chg hc (by simp; omega) (by simp; omega), Nat.lt_of_lt_of_le h.ult hc.size, h.hup, h.hug, h.huq, h.ml, h.nl, h.mr, h.nr⟩

/-- 'w.R = ..'. -/
theorem PW.setR {w : World} {u p g q q' : Nat} {d : DS} {H : Nat} {Lg : Value} {M N : Secs} {dead : Bool} (h : PW w u p g q d H Lg M N dead) {A : Option Addr} {c n : Nat} {R : Secs} (ht : TsX w [u, p, g, q'] A n R) (hq : u ≠ q') (hn : n ≤ 200) (hr : ∀ r ∈ R, r.length ≤ 1010) :
    let W := (((w.setCell ⟨u, 2, none⟩ (.int .i64 (H : Int))).setCell ⟨u, 3, none⟩ (.slice A n c)).setCell ⟨u, 4, none⟩ (.slice A n c)).setCell ⟨u, 5, none⟩ (.bool false)
    PW W u p g q' d H Lg R R false ∧ Chg [u] w W := by
  intro W
  have hc : Chg [u] w W := (((chg_set w u 2 _).and (chg_set _ u 3 _)).and (chg_set _ u 4 _)).and (chg_set _ u 5 _)
  have hup := h.hup
  have hug := h.hug
  obtain ⟨A3, c3, e3, _⟩ := h.c3
  obtain ⟨A4, c4, e4, _⟩ := h.c4
  have hl : R.length = n := ht.1.len
  have hc2 : Chg [u, p, g, q'] w W := hc.mono (by intro s hs; simp at hs ⊢; exact .inl hs)
  have k0 : W.cell? ⟨u, 0, none⟩ = w.cell? ⟨u, 0, none⟩ := by simp only [W]; rw [setc_ne _ _ _ _ _ (by omega), setc_ne _ _ _ _ _ (by omega), setc_ne _ _ _ _ _ (by omega), setc_ne _ _ _ _ _ (by omega)]
  have k1 : W.cell? ⟨u, 1, none⟩ = w.cell? ⟨u, 1, none⟩ := by simp only [W]; rw [setc_ne _ _ _ _ _ (by omega), setc_ne _ _ _ _ _ (by omega), setc_ne _ _ _ _ _ (by omega), setc_ne _ _ _ _ _ (by omega)]
  have k2 : W.cell? ⟨u, 2, none⟩ = some (.int .i64 (H : Int)) := by simp only [W]; rw [setc_ne _ _ _ _ _ (by omega), setc_ne _ _ _ _ _ (by omega), setc_ne _ _ _ _ _ (by omega)]; exact setc_same _ _ _ _ _ h.c2
  have k3 : W.cell? ⟨u, 3, none⟩ = some (.slice A n c) := by simp only [W]; rw [setc_ne _ _ _ _ _ (by omega), setc_ne _ _ _ _ _ (by omega)]; exact setc_same _ _ _ _ _ (by rw [setc_ne _ _ _ _ _ (by omega)]; exact e3)
  have k4 : W.cell? ⟨u, 4, none⟩ = some (.slice A n c) := by simp only [W]; rw [setc_ne _ _ _ _ _ (by omega)]; exact setc_same _ _ _ _ _ (by rw [setc_ne _ _ _ _ _ (by omega), setc_ne _ _ _ _ _ (by omega)]; exact e4)
  have k5 : W.cell? ⟨u, 5, none⟩ = some (.bool false) := by simp only [W]; exact setc_same _ _ _ _ _ (by rw [setc_ne _ _ _ _ _ (by omega), setc_ne _ _ _ _ _ (by omega), setc_ne _ _ _ _ _ (by omega)]; exact h.c5)
  have tx : TsX W [u, p, g, q'] A R.length R := by rw [hl]; exact ht.chg hc2
  exact ⟨⟨k0.trans h.c0, k1.trans h.c1, k2, ⟨A, c, by rw [hl]; exact k3, tx⟩, ⟨A, c, by rw [hl]; exact k4, tx⟩, k5, fun o => by simp only [W]; rw [World.frozen?_setCell, World.frozen?_setCell, World.frozen?_setCell, World.frozen?_setCell]; exact h.uf o, h.id.chg hc (by simp; omega) (by simp; omega), Nat.lt_of_lt_of_le h.ult hc.size, hup, hug, hq, by omega, by omega, hr, hr⟩, hc⟩
/-- A pointer's cell is none of theirs. -/
theorem RsX.setPtr {w : World} {A : Option Addr} {n : Nat} {L : List (List UInt8)} (h : RsX w [] A n L) {a : Addr} {x : Option Addr} (hp : w.cell? a = some (.pointer x)) (v : Value) : RsX (w.setCell a v) [] A n L := by
  refine ⟨h.len, fun i hi => ?_⟩
  obtain ⟨ad, A', n', c', e, h1, h2, h3, h4, h5, h6, h7⟩ := h.rd i hi
  have hsz : (w.setCell a v).heap.size = w.heap.size := by simp [World.setCell]
  refine ⟨ad, A', n', c', e, by rw [hsz]; exact h1, h2, ?_, h4, h5, ?_, h7⟩
  · rw [World.cell?_setCell_other _ _ _ _ (fun e => by rw [e, h3] at hp; cases hp)]
    exact h3
  · rw [hsz]
    refine ⟨Vs.len h6, fun j u hj => ?_⟩
    obtain ⟨ad2, e2, hb, hc⟩ := Vs.rd h6 j u hj
    refine ⟨ad2, e2, hb, ?_⟩
    rw [World.cell?_setCell_other _ _ _ _ (fun e => by
      rw [e, hc] at hp
      rw [bv_at] at hj
      cases hb2 : L[i][j]? with
      | none => rw [hb2] at hj; cases hj
      | some y => rw [hb2] at hj; simp at hj; subst hj; cases hp)]
    exact hc
theorem length_sizes : ∀ L : Secs, L.length ≤ sizes L
  | [] => by simp
  | r :: L => by
    have := length_sizes L
    have := Wal.size_pos r.length
    unfold sizes at *
    simp
    omega

theorem open_tail {W : World} {u p g q q3 H n3 c5 : Nat} {d3 : DS} {L3 : LS} {Lg : Value} {M N rs : Secs} {dead : Bool} {A5 : Option Addr} (h : PW W u p g q d3 H Lg M N dead) (l : IsLog W q3 p L3.side L3.used L3.dead) (t : TsX W [u, p, g, q3] A5 n3 rs) (v : Live d3 L3 rs) (hu : u ≠ q3) (hn : n3 ≤ 200) (hH : half d3.secs.length = H) :
    ∃ w7 z, (((W.setCell ⟨u, 2, none⟩ (.int .i64 (H : Int))).setCell ⟨u, 3, none⟩ (.slice A5 n3 c5)).setCell ⟨u, 4, none⟩ (.slice A5 n3 c5)).setCell ⟨u, 5, none⟩ (.bool false) = w7 ∧ (PW w7 u p g q3 d3 H Lg rs rs false ∧ IsLog w7 q3 p L3.side L3.used L3.dead) ∧ Chg [u] W w7 ∧ w7.cell? ⟨u, 2, none⟩ = some (.int .i64 (H : Int)) ∧
      (∀ k, Calls Try.prog 13 #[.pointer (some ⟨q3, 0, none⟩)] (w7.drewN k) fun e w' => e = .returned (.int .i64 (z : Nat)) ∧ w7.drewN k = w') ∧
      (∀ k, Calls Try.prog 12 #[.pointer (some ⟨q3, 0, none⟩)] (w7.drewN k) fun e w' => e = .returned (.int .i64 (H : Nat)) ∧ w7.drewN k = w') ∧
      (∀ k, Calls Try.prog 20 #[.slice A5 n3 c5] (w7.drewN k) fun e w' => e = .returned (.int .i64 (z : Nat)) ∧ w7.drewN k = w') := by
  have hsz := v.sizes
  have hrl := t.1.len
  obtain ⟨hp7, hc67⟩ := h.setR (c := c5) t hu hn (fun r hr => by have := hsz.2 r hr; omega)
  have l7 := l.chg hc67 (by simp; omega)
  have t7 := (t.chg (hc67.mono (by simp))).1
  refine ⟨_, sizes rs, rfl, ⟨hp7, l7⟩, hc67, hp7.c2, fun k => ?_, fun k => ?_, fun k => ?_⟩
  · have := used_any (l7.drewN k)
    rw [hsz.1] at this
    exact this
  · have := half_any (l7.drewN k) (hp7.id.drewN k) v.n7
    rw [hH] at this
    exact this
  · exact rsizes_any A5 n3 c5 rs _ (Ts.drewN' t7 k) (by omega) (fun r hr => by have := hsz.2 r hr; omega)

set_option maxRecDepth 100000 in
set_option maxHeartbeats 16000000 in
theorem popen_any {w : World} {u p g q H : Nat} {d : DS} {Lg : Value} {M N : Secs} {dead : Bool} (h : PW w u p g q d H Lg M N dead) (he : Either d M (if dead then N else M)) (hwr : d.writes < 700000) (hH : H = Wal.half d.secs.length) :
    Calls Try.prog 23 #[.pointer (some ⟨u, 0, none⟩)] w fun e w' => ∃ d' L' q' M', e = .returned (.bool true) ∧ PW w' u p g q' d' H (.pointer (some ⟨q', 0, none⟩)) M' M' false ∧ IsLog w' q' p L'.side L'.used L'.dead ∧ Live d' L' M' ∧ d'.secs.length = d.secs.length ∧ d'.writes ≤ d.writes + 6 ∧ w.heap.size ≤ q' ∧ Chg [u, p, g] w w' := by
  obtain ⟨E, hE⟩ : ∃ E, (if dead then N else M) = E := ⟨_, rfl⟩
  have HE := Lib.hid hE
  rw [hE] at he
  have HH := Lib.hid hH
  clear hE hH
  go_enter Try.func23, Try.ntmps23
  go_wp2_with fail
  go_loopw [3, 4, 5, 6, 7, 8, 9] (fun i _ _ _ _ _ _ wr => ∃ (k : Nat) (d' : DS) (Lg' : Value), k ≤ 1 ∧ i = .int .i64 k ∧ PW wr u p g q d' H Lg' M N dead ∧ Either d' M E ∧ (k = 1 → d'.down = false ∧ d'.left = none) ∧ d'.writes ≤ d.writes + 3 * k ∧ Hid (d'.secs.length = d.secs.length) ∧ Chg [u, p, g] w wr) (fun i _ _ _ _ _ _ _ => 3 - (intOf i).toNat)
  case atStart => exact ⟨0, d, Lg, by omega, rfl, h, he, by omega, by omega, Lib.hid rfl, Chg.refl _ _⟩
  case round =>
    obtain ⟨k, d1, Lg1, hk1, rfl, h1, he1, hka, hw1, HL1, hch1⟩ := hrel
    have hk3 : (k : Int) < 3 := by omega
    obtain ⟨w1, hw1'⟩ : ∃ w1, wr.setCell ⟨u, 1, none⟩ (.pointer none) = w1 := ⟨_, rfl⟩
    have h2 : PW w1 u p g q d1 H (.pointer none) M N dead := by rw [← hw1']; exact h1.setL _
    have hch2 : Chg [u, p, g] w w1 := by rw [← hw1']; exact hch1.and ((chg_set wr u 1 _).mono (by simp))
    have k1 := h1.c1
    have kf := h1.uf 1
    have k0 := h2.c0
    have hsame : IsDisk w1 p g d1 := h2.id
    have hop : Calls Try.prog 9 #[.pointer (some ⟨p, 0, none⟩)] w1 fun e w' => OpenedLog w1 p g d1 M E e w' ∨ (OpenedDown w1 p g d1 M E e w' ∧ k = 0) := by
      by_cases hdn : d1.down = true
      · refine (open_down hsame he1 hdn).mono ?_
        intro e w' ho
        refine .inr ⟨ho, ?_⟩
        rcases Nat.lt_or_ge 0 k with h0 | h0
        · have := (hka (by omega)).1
          rw [hdn] at this
          cases this
        · omega
      · have hdn : d1.down = false := by simpa using hdn
        refine (open_either hsame he1 hdn (by omega)).mono ?_
        intro e w' ho
        rcases ho with ho | ho
        · exact .inl ho
        · refine .inr ⟨ho, ?_⟩
          obtain ⟨_, _, _, _, _, _, _, hx, _⟩ := ho
          rcases Nat.lt_or_ge 0 k with h0 | h0
          · exact absurd (hka (by omega)).2 (hx hdn).2
          · omega
    clear h1
    go_wp2_with fail
    refine hop.mono ?_
    rintro e w3 (⟨d3, L3, rs, q3, A3, n3, c3, xs3, rfl, k3, i3, l3, v3, hrs, hq3, hrow3, n3', wr3, _, hc3⟩ | ⟨⟨d3, rfl, i3, hdn3, he3, n3', wr3, _, hc3⟩, rfl⟩)
    · have h3 := h2.chg (hc3.mono (by simp)) i3
      have hult := h3.ult
      have hu1 : u < w1.heap.size := h2.ult
      have hqu : q3 ≠ u := by omega
      have k31 := h3.c1
      have k3f := h3.uf 1
      have n256 := v3.n256
      have h7 := v3.n7
      have HL3 : Hid (d3.secs.length = d.secs.length) := Lib.hid (by rw [n3', HL1.out])
      obtain ⟨w4, hw4⟩ : ∃ w4, w3.setCell ⟨u, 1, none⟩ (.pointer (some ⟨q3, 0, none⟩)) = w4 := ⟨_, rfl⟩
      have h4 : PW w4 u p g q d3 H (.pointer (some ⟨q3, 0, none⟩)) M N dead := by rw [← hw4]; exact h3.setL _
      have hcu : Chg [u] w3 w4 := by rw [← hw4]; exact chg_set _ _ _ _
      have l4 := l3.chg hcu (by simp; omega)
      have hrsx : RsX w4 [] A3 n3 rs := by rw [← hw4]; exact (hrow3.rs (S := []) (by simp)).setPtr k31 _
      have hsz := v3.sizes
      have hn3 : n3 ≤ 126 := by
        have e1 := length_sizes rs
        have e2 := v3.half.2
        have e3 := hsz.1
        have e4 : half d3.secs.length ≤ 126 := by unfold half; omega
        have e5 := hrsx.len
        omega
      have hrn := Lib.hid hrsx.len
      have hch4 : Chg [u, p, g] w w4 := (hch2.and (hc3.mono (by simp))).and (hcu.mono (by simp))
      clear n3' h2 h3 l3 hrow3 i3
      go_wp2_with fail
      refine (texts_any _ _ _ _ _ hrsx (by omega)).mono ?_
      rintro e w5 ⟨A5, c5, rfl, k5, hown5, hb5⟩
      have h5 := h4.below hb5
      have l5 := l4.chg (Chg.of_below (S := []) hb5) (by simp)
      have t5 := Ts.of_own hown5
      obtain ⟨Am, cm, e5, tm⟩ := h5.c3
      have hml := h5.ml
      have hu4 := h4.ult
      have hp4 := h4.id.plt
      have hg4 := h4.id.glt
      have hq4 := l4.qlt
      have t5x : TsX w5 [u, p, g, q3] A5 n3 rs := TsX.of_own hown5 (by simp; omega)
      clear hrsx hown5 h4 l4
      go_wp2_with fail
      refine (same_any _ _ _ _ _ _ _ _ _ t5 tm.1 (by omega) (by omega)).mono ?_
      rintro e w6 ⟨rfl, hb6⟩
      have h6 := h5.below hb6
      have l6 := l5.chg (Chg.of_below (S := []) hb6) (by simp)
      have t6x : TsX w6 [u, p, g, q3] A5 n3 rs := t5x.chg (Chg.of_below hb6)
      have t6 := t6x.1
      obtain ⟨o1, ho1⟩ : ∃ o, decide (rs = M) = o := ⟨_, rfl⟩
      rw [ho1]
      have hqu3 : u ≠ q3 := by omega
      have hH3 : half d3.secs.length = H := by rw [HL3.out, ← HH.out]
      have hch6 : Chg [u, p, g] w w6 := (hch4.and_below hb5).and_below hb6
      have hq3w : w.heap.size ≤ q3 := by have := hch2.size; omega
      have hn200 : n3 ≤ 200 := by omega
      have HT := Lib.hid hrn.out
      have HH3 := Lib.hid hH3
      clear t5x t5 tm e5 h5 l5 hsz hH3 hrn
      cases dead with
      | false =>
        have ho : o1 = true := by
          rw [← ho1]
          have := HE.out
          simp at this
          subst this
          rcases hrs with h | h <;> exact decide_eq_true h
        subst ho
        obtain ⟨w7, z, hw7, hfin, hc67, k72, hU, hHf, hS⟩ := open_tail (c5 := c5) h6 l6 t6x v3 hqu3 hn200 HH3.out
        have k65 := h6.c5
        have k62 := h6.c2
        have k6f := h6.uf
        have k60 := h6.c0
        have k61 := h6.c1
        obtain ⟨An, cn, k64, tn⟩ := h6.c4
        obtain ⟨Am6, cm6, k63, tm6⟩ := h6.c3
        have HFIN := Lib.hid hfin
        have hzz : ((z : Int) == (z : Int)) = true := by simp
        have hHH : ((H : Int) == (H : Int)) = true := by simp
        clear ho1 HE hrs hfin h6 l6 tn tm6
        go_wp2_with fail
        go_quiet ((first | (go_at_call 13; exact quiet_of (hU _)) | (go_at_call 12; exact quiet_of (hHf _)) | (go_at_call 20; exact quiet_of (hS _))))
        go_wp2
        go_ret
        have hbq : Below w7.heap.size w7 (w7.drewN nq) := below_drewNs _ _ _
        exact ⟨d3, L3, q3, rs, rfl, HFIN.out.1.below hbq, HFIN.out.2.chg (Chg.of_below (S := []) hbq) (by simp), v3, HL3.out, by omega, hq3w, (hch6.and (hc67.mono (by simp))).and_below hbq⟩
      | true =>
        obtain ⟨o2, ho2⟩ : ∃ o, decide (rs = N) = o := ⟨_, rfl⟩
        have hcase : o1 = true ∨ (o1 = false ∧ o2 = true) := by
          rw [← ho1, ← ho2]
          have := HE.out
          simp at this
          subst this
          rcases hrs with h | h
          · exact .inl (decide_eq_true h)
          · by_cases hm : rs = M
            · exact .inl (decide_eq_true hm)
            · exact .inr ⟨decide_eq_false hm, decide_eq_true h⟩
        have k65 := h6.c5
        have hnl := h6.nl
        obtain ⟨An, cn, k64, tn⟩ := h6.c4
        have hsame2 := same_any A5 n3 c5 rs An N.length cn N w6 t6 tn.1 (by omega) (by omega)
        rw [ho2] at hsame2
        clear ho1 HE hrs ho2
        rcases hcase with rfl | ⟨rfl, rfl⟩
        all_goals
          go_wp2_with fail
          refine hsame2.mono ?_
          rintro e w8 ⟨rfl, hb8⟩
          have h8 := h6.below hb8
          have l8 := l6.chg (Chg.of_below (S := []) hb8) (by simp)
          have t8 := t6x.chg (Chg.of_below hb8)
          obtain ⟨w7, z, hw7, hfin, hc67, k72, hU, hHf, hS⟩ := open_tail (c5 := c5) h8 l8 t8 v3 hqu3 hn200 HH3.out
          have k85 := h8.c5
          have k62 := h8.c2
          have k6f := h8.uf
          have k60 := h8.c0
          have k61 := h8.c1
          obtain ⟨An8, cn8, k84, tn8⟩ := h8.c4
          obtain ⟨Am6, cm6, k63, tm6⟩ := h8.c3
          have HFIN := Lib.hid hfin
          have hzz : ((z : Int) == (z : Int)) = true := by simp
          have hHH : ((H : Int) == (H : Int)) = true := by simp
          clear hfin h6 l6 h8 l8 t8 tn tm6 tn8 t6 t6x hsame2 k64 k65
          go_wp2_with fail
          go_quiet ((first | (go_at_call 13; exact quiet_of (hU _)) | (go_at_call 12; exact quiet_of (hHf _)) | (go_at_call 20; exact quiet_of (hS _))))
          go_wp2
          go_ret
          have hbq : Below w7.heap.size w7 (w7.drewN nq) := below_drewNs _ _ _
          exact ⟨d3, L3, q3, rs, rfl, HFIN.out.1.below hbq, HFIN.out.2.chg (Chg.of_below (S := []) hbq) (by simp), v3, HL3.out, by omega, hq3w, ((hch6.and_below hb8).and (hc67.mono (by simp))).and_below hbq⟩
    · have h3 := h2.chg (hc3.mono (by simp)) i3
      have k30 := h3.c0
      have hch3 := hch2.and (hc3.mono (by simp))
      have HL3 : Hid (d3.secs.length = d.secs.length) := Lib.hid (by rw [n3', HL1.out])
      clear n3'
      go_wp2_with fail
      refine (up_any i3).mono ?_
      rintro e w4 ⟨rfl, i4, hc4⟩
      have h4 := h3.chg (hc4.mono (by simp)) i4
      have he4 := he3.up
      have hw4 : d3.up.writes ≤ d.writes + 3 := by show d3.writes ≤ _; omega
      have HL4 : Hid (d3.up.secs.length = d.secs.length) := HL3
      have hd4 : d3.up.down = false ∧ d3.up.left = none := ⟨rfl, rfl⟩
      generalize d3.up = d4 at *
      clear h3 i3 k30
      go_wp2_with fail
      go_roundw
      case rel => exact ⟨1, d4, _, by omega, by go_num, h4, he4, fun _ => hd4, by omega, HL4, hch3.and (hc4.mono (by simp))⟩
      case measure => simp [intOf]
end Go.Proofs.Ytgaplcgenlphdaa
