/- THE LAW's WORLD, a run of deeds: what each call leaves. -/
import Derived.Test.YtgaplcgenlphdaaWalAdd
import Derived.Laws.NewBlocks
namespace Go.Proofs.Ytgaplcgenlphdaa
open Go.RowKit Mem Wal

theorem Wal.says_len {S : Secs} {h : List UInt8} {A : Secs} (hS : ∀ s ∈ S, s.length = 128) (h7 : 7 ≤ S.length) (h256 : S.length ≤ 256) (hs : Says S h A) : A.length ≤ 126 := by
  obtain ⟨h1, h2⟩ := norm_bound S.length h
  unfold Says at hs
  have hl := content_length hS (area h1 h2 h7)
  have := parse_sizes _ _ _ A hl (Nat.le_refl _) hs
  have := length_sizes A
  have : half S.length ≤ 126 := by unfold half; omega
  omega
theorem Wal.Either.len {d : DS} {A B : Secs} (h : Either d A B) : A.length ≤ 126 := by
  rcases h.may with ⟨x, y, h1, _⟩ | ⟨x, y, h1, _⟩
  · exact says_len h.wf.1 h.n7 h.n256 h1
  · exact says_len h.wf.1 h.n7 h.n256 h1
theorem Wal.Either.arm {d : DS} {A B : Secs} (h : Either d A B) (a : Int) (t : List UInt8) : Either (d.arm a t) A B := by
  refine ⟨⟨h.wf.1, fun n t' e => ?_⟩, h.n7, h.n256, h.may⟩
  unfold DS.arm at e
  simp only at e
  split at e
  · injection e with e
    injection e with e1 e2
    rw [← e2]
    exact fill_length _
  · cases e
theorem St.len {d : DS} {L : LS} {M N : Secs} {dead : Bool} (h : St d L M N dead) : M.length ≤ 126 := h.either.len
theorem St.arm {d : DS} {L : LS} {M N : Secs} {dead : Bool} (h : St d L M N dead) (a : Int) (t : List UInt8) : St (d.arm a t) L M N dead := by
  rcases h with ⟨h1, h⟩ | ⟨h1, h2, h3, h4⟩
  · exact .inl ⟨h1, h.arm a t⟩
  · exact .inr ⟨h1, h2, h3.arm a t, h4⟩
theorem fresh_either {n : Nat} (h7 : 7 ≤ n) (h256 : n ≤ 256) : Either (DS.fresh n) [] [] := by
  have hl : (DS.fresh n).secs.length = n := by simp [DS.fresh]
  have hw : WF (DS.fresh n) := by
    refine ⟨fun s hs => ?_, fun n t h => by cases h⟩
    rw [List.eq_of_mem_replicate (show s ∈ List.replicate n (List.replicate 128 0) from hs), List.length_replicate]
  have hsec : ∀ i, i < n → sec (DS.fresh n).secs i = List.replicate 128 0 := by
    intro i hi
    unfold sec DS.fresh
    simp [hi]
  have hnorm : norm n (List.replicate 128 0) = (0, 0) := by
    unfold norm hside hused
    simp
  have hg : Wal.Good (DS.fresh n).secs (List.replicate 128 0) [] := by
    refine ⟨hsec 0 (by omega), hsec 1 (by omega), hsec 2 (by omega), ?_⟩
    unfold Says
    rw [hl, hnorm]
    exact parse_nil _
  exact ⟨hw, by omega, by omega, .inl hg.may⟩

/-- The law's world behind some deeds; all of it is new since B. -/
structure Run (B : Nat) (w : World) (u p g H k : Nat) : Prop where
  bu : B ≤ u
  bp : B ≤ p
  bg : B ≤ g
  st : ∃ d L q M N dead, PW w u p g q d H (.pointer (some ⟨q, 0, none⟩)) M N dead ∧ IsLog w q p L.side L.used L.dead ∧ St d L M N dead ∧ H = half d.secs.length ∧ q ≠ p ∧ q ≠ g ∧ B ≤ q ∧ d.writes ≤ 6 + k * 260
theorem Run.ult {B : Nat} {w : World} {u p g H k : Nat} (h : Run B w u p g H k) : u < w.heap.size ∧ p < w.heap.size ∧ g < w.heap.size ∧ B ≤ w.heap.size ∧ u ≠ p ∧ u ≠ g := by
  obtain ⟨d, L, q, M, N, dead, h1, _⟩ := h.st
  have := h.bu
  have := h1.ult
  exact ⟨h1.ult, h1.id.plt, h1.id.glt, by omega, h1.hup, h1.hug⟩
theorem Run.c0 {B : Nat} {w : World} {u p g H k : Nat} (h : Run B w u p g H k) : w.cell? ⟨u, 0, none⟩ = some (.pointer (some ⟨p, 0, none⟩)) := by
  obtain ⟨d, L, q, M, N, dead, h1, _⟩ := h.st
  exact h1.c0
theorem Run.below {B : Nat} {w w' : World} {u p g H k : Nat} (h : Run B w u p g H k) (hb : Below w.heap.size w w') : Run B w' u p g H k := by
  obtain ⟨d, L, q, M, N, dead, h1, h2, h3⟩ := h.st
  exact ⟨h.bu, h.bp, h.bg, d, L, q, M, N, dead, h1.below hb, h2.chg (Chg.of_below (S := []) hb) (by simp), h3⟩
theorem Run.mono {B : Nat} {w : World} {u p g H k k' : Nat} (h : Run B w u p g H k) (hk : k ≤ k') : Run B w u p g H k' := by
  obtain ⟨d, L, q, M, N, dead, h1, h2, h3, h4, h5, h6, h7, h8⟩ := h.st
  exact ⟨h.bu, h.bp, h.bg, d, L, q, M, N, dead, h1, h2, h3, h4, h5, h6, h7, Nat.le_trans h8 (Nat.add_le_add_left (Nat.mul_le_mul_right 260 hk) 6)⟩
def Done (B : Nat) (w : World) (u p g H k : Nat) (e : Ending) (w' : World) : Prop := e = .returned (.bool true) ∧ Run B w' u p g H k ∧ Below B w w'
theorem run_open {B : Nat} {w : World} {u p g H k : Nat} (h : Run B w u p g H k) (hk : k ≤ 30) : Calls Try.prog 23 #[.pointer (some ⟨u, 0, none⟩)] w (Done B w u p g H (k + 1)) := by
  obtain ⟨d, L, q, M, N, dead, h1, h2, h3, h4, h5, h6, h7, h8⟩ := h.st
  obtain ⟨ult, plt, glt, hB, _, _⟩ := h.ult
  have bu := h.bu
  have bp := h.bp
  have bg := h.bg
  refine (popen_any h1 h3.either (by omega) h4).mono ?_
  rintro e w' ⟨d', L', q', M', rfl, p1, p2, p3, p4, p5, p6, p7⟩
  exact ⟨rfl, ⟨bu, bp, bg, d', L', q', M', M', false, p1, p2, .inl ⟨rfl, p3⟩, by rw [p4]; exact h4, by omega, by omega, by omega, by omega⟩, p7.below' hB (by intro s hs; simp at hs; omega)⟩
set_option maxRecDepth 100000 in
theorem run_first {B n : Nat} {w : World} {u p g q H : Nat} (h : PW w u p g q (DS.fresh n) H (.pointer none) [] [] false) (bu : B ≤ u) (bp : B ≤ p) (bg : B ≤ g) (h7 : 7 ≤ n) (h256 : n ≤ 256) (hH : H = half n) : Calls Try.prog 23 #[.pointer (some ⟨u, 0, none⟩)] w (Done B w u p g H 0) := by
  have ult := h.ult
  have plt := h.id.plt
  have glt := h.id.glt
  have hl : (DS.fresh n).secs.length = n := by simp [DS.fresh]
  have hwr : (DS.fresh n).writes = 0 := rfl
  have hE := fresh_either h7 h256
  generalize DS.fresh n = d at *
  refine (popen_any h hE (by omega) (by rw [hl]; exact hH)).mono ?_
  rintro e w' ⟨d', L', q', M', rfl, p1, p2, p3, p4, p5, p6, p7⟩
  exact ⟨rfl, ⟨bu, bp, bg, d', L', q', M', M', false, p1, p2, .inl ⟨rfl, p3⟩, by rw [p4, hl]; exact hH, by omega, by omega, by omega, by omega⟩, p7.below' (by omega) (by intro s hs; simp at hs; omega)⟩
/-- few, and then write. -/
theorem run_write {B : Nat} {w : World} {u p g H k : Nat} (h : Run B w u p g H k) (hk : k ≤ 30) {A : Option Addr} {n c : Nat} {R : Secs} (hr : RsB w B A n R) (hn : n ≤ c) :
    Calls Try.prog 19 #[.slice A n c] w fun e w' => ∃ A' m c', e = .returned (.slice A' m c') ∧ Run B w' u p g H k ∧ Below B w w' ∧
      ∀ b : Bool, Calls Try.prog 24 #[.pointer (some ⟨u, 0, none⟩), .slice A' m c', .bool b] w' (Done B w' u p g H (k + 1)) := by
  obtain ⟨d, L, q, M, N, dead, h1, h2, h3, h4, h5, h6, h7, h8⟩ := h.st
  obtain ⟨ult, plt, glt, hB, _, _⟩ := h.ult
  have bu := h.bu
  have bp := h.bp
  have bg := h.bg
  have qlt := h2.qlt
  have hx : RsX w [u, p, g, q] A n R := hr.x hB (by intro s hs; simp at hs; omega)
  have hlen := h3.len
  refine (few_any _ _ _ _ _ hx hn).mono ?_
  rintro e w' ⟨A', m, c', xs, rfl, m4, mc, _, hrow, hb⟩
  have hs := hrow.rs (by intro s hs; simp at hs; omega)
  refine ⟨A', m, c', rfl, h.below hb, hb.mono hB, fun b => ?_⟩
  have g1 := h1.below hb
  have g2 := h2.chg (Chg.of_below (S := []) hb) (by simp)
  have hB' : B ≤ w'.heap.size := by have := hb.size; omega
  have key : Calls Try.prog 24 #[.pointer (some ⟨u, 0, none⟩), .slice A' m c', .bool b] w' (PWrote w' u p g q d H) := by
    cases b
    · exact pwrite_add g1 g2 h3 h4 h5 h6 (by omega) A' m c' _ hs mc (fewOf_short R) (by omega)
    · exact pwrite_new g1 g2 h3 h4 h5 h6 A' m c' _ hs m4 (fewOf_short R) (by omega)
  refine key.mono ?_
  rintro e w2 ⟨d', L', M', N', dead', rfl, p1, p2, p3, p4, p5, p6⟩
  exact ⟨rfl, ⟨bu, bp, bg, d', L', q, M', N', dead', p1, p2, p3, by rw [p4]; exact h4, h5, h6, h7, by omega⟩, p6.below' hB' (by intro s hs; simp at hs; omega)⟩
theorem run_arm {B : Nat} {w : World} {u p g H k : Nat} (h : Run B w u p g H k) (x : Int) (hx1 : -9223372036854775808 ≤ x) (hx2 : x ≤ 9223372036854775807) (A : Option Addr) (n c : Nat) (l : List UInt8) (hd : Bs w B A n l) :
    ∀ W, Chg [] w W → Calls Try.prog 21 #[.pointer (some ⟨p, 0, none⟩), .int .i64 x, .slice A n c] W fun e w' => e = .returned (.tuple #[]) ∧ Run B w' u p g H k ∧ Chg [p, g] w w' := by
  intro W hW
  obtain ⟨d, L, q, M, N, dead, h1, h2, h3, h4, h5, h6, h7, h8⟩ := h.st
  obtain ⟨ult, plt, glt, hB, _, _⟩ := h.ult
  have i0 := h1.id.chg hW (by simp) (by simp)
  have hB' : B ≤ W.heap.size := by have := hW.size; omega
  have hd' : Bs W B A n l := hd.keep fun a ha => hW.cell (p := a) (by omega) (by simp)
  refine (arm_any i0 x hx1 hx2 A n c B l hd' hB').mono ?_
  rintro e w' ⟨rfl, i, hc⟩
  have hcc : Chg [p, g] w w' := (hW.mono (by simp)).and hc
  refine ⟨rfl, ⟨h.bu, h.bp, h.bg, d.arm x l, L, q, M, N, dead, h1.chg (hcc.mono (by simp)) i, h2.chg hcc (by simp; omega), h3.arm x l, h4, h5, h6, h7, h8⟩, hcc⟩
/-- The new world. -/
theorem new_world {w : World} {p g n H : Nat} (hi : IsDisk w p g (DS.fresh n)) {t : TypeId} :
    PW (w.alloc (.cells #[.pointer (some ⟨p, 0, none⟩), .pointer none, .int .i64 (H : Int), .slice none 0 0, .slice none 0 0, .bool false] t)) w.heap.size p g p (DS.fresh n) H (.pointer none) [] [] false := by
  have plt := hi.plt
  have glt := hi.glt
  have hb : Below w.heap.size w (w.alloc (.cells #[.pointer (some ⟨p, 0, none⟩), .pointer none, .int .i64 (H : Int), .slice none 0 0, .slice none 0 0, .bool false] t)) := (Below.refl _ _).alloc (Nat.le_refl _) _
  have nl : TsX (w.alloc (.cells #[.pointer (some ⟨p, 0, none⟩), .pointer none, .int .i64 (H : Int), .slice none 0 0, .slice none 0 0, .bool false] t)) [w.heap.size, p, g, p] none 0 [] := ⟨Vs.empty _ _ _ _, fun a ha => by cases ha⟩
  refine ⟨?_, ?_, ?_, ⟨none, 0, ?_, nl⟩, ⟨none, 0, ?_, nl⟩, ?_, fun o => ?_, hi.chg (Chg.of_below (S := []) hb) (by simp) (by simp), by simp, by omega, by omega, by omega, by simp, by simp, by simp, by simp⟩
  · exact World.cell?_alloc_at _ _ _ 0 rfl
  · exact World.cell?_alloc_at _ _ _ 1 rfl
  · exact World.cell?_alloc_at _ _ _ 2 rfl
  · exact World.cell?_alloc_at _ _ _ 3 rfl
  · exact World.cell?_alloc_at _ _ _ 4 rfl
  · exact World.cell?_alloc_at _ _ _ 5 rfl
  · exact World.frozen?_alloc_at _ _ _ o rfl
end Go.Proofs.Ytgaplcgenlphdaa
