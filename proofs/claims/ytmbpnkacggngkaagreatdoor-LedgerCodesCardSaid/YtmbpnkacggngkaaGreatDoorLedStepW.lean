/- THE STEPS of an operation that is written. -/
import Derived.Test.YtmbpnkacggngkaaGreatDoorLedList
namespace Go.Proofs.YtmbpnkacggngkaaGreatDoor
open Go.RowKit Mem Led

/-- A coder that writes, since w0, and blocks that stay. -/
def WSt (gc : Nat) (S : List Nat) (K : List (Nat × List Value × TypeId)) (w0 w : World) (l : Txt) : Prop :=
  ∃ v, Wr w w0.heap.size gc v l ∧ (∀ p ∈ K, Blk w p.1 p.2.1 p.2.2 ∧ v.ownBlock ≠ some p.1 ∧ p.1 ≠ gc) ∧ Chg S w0 w
section
variable {gc : Nat} {S : List Nat} {K : List (Nat × List Value × TypeId)} {w0 w w' : World} {l l' : Txt}
theorem WSt.drew (h : WSt gc S K w0 w l) : WSt gc S K w0 w.drew l := by
  obtain ⟨v, h1, h2, h3⟩ := h
  exact ⟨v, h1.drew, h2, h3.drew⟩
theorem WSt.alloc (h : WSt gc S K w0 w l) (cs : List Value) (t : TypeId) : WSt gc S ((w.heap.size, cs, t) :: K) w0 (w.alloc (.cells cs.toArray t)) l := by
  obtain ⟨v, h1, h2, h3⟩ := h
  refine ⟨v, h1.alloc _, fun p hp => ?_, h3.alloc _⟩
  simp only [List.mem_cons] at hp
  rcases hp with rfl | hp
  · exact ⟨Blk.new w cs t, h1.ne, fun e => by have := h1.blk.lt; simp only [] at e; omega⟩
  · exact ⟨(h2 p hp).1.alloc _, (h2 p hp).2⟩
theorem WSt.less {K' : List (Nat × List Value × TypeId)} (h : WSt gc S K w0 w l) (hK : ∀ p ∈ K', p ∈ K) : WSt gc S K' w0 w l := by
  obtain ⟨v, h1, h2, h3⟩ := h
  exact ⟨v, h1, fun p hp => h2 p (hK p hp), h3⟩
theorem WSt.wrote {v : Value} (h1 : Wr w w0.heap.size gc v l) (h2 : ∀ p ∈ K, Blk w p.1 p.2.1 p.2.2 ∧ v.ownBlock ≠ some p.1 ∧ p.1 ≠ gc) (h3 : Chg S w0 w) (hS : gc ∈ S) (h : Wrote w0.heap.size gc v l' w w') : WSt gc S K w0 w' l' := by
  obtain ⟨v', a1, a2, a3⟩ := h
  refine ⟨v', a1, fun p hp => ?_, h3.trans a2 fun s hs => ?_⟩
  · obtain ⟨b1, b2, b3⟩ := h2 p hp
    refine ⟨b1.chg a2 (by simp [b3]; exact fun e => b2 e), fun e => ?_, b3⟩
    rcases a3 _ e with h | h
    · exact b2 h
    · have := b1.lt
      omega
  · simp at hs
    rcases hs with rfl | hs
    · exact .inl hS
    · exact .inr (h1.own.lt s hs).1
/-- A store into a block that is kept. -/
theorem WSt.store {g : Nat} {cs : List Value} {t : TypeId} (h : WSt gc S ((g, cs, t) :: K) w0 w l) (hg : g ∈ S ∨ w0.heap.size ≤ g) (k : Nat) (u : Value) (hK : ∀ p ∈ K, p.1 ≠ g) : WSt gc S ((g, cs.set k u, t) :: K) w0 (w.setCell ⟨g, k, none⟩ u) l := by
  obtain ⟨v, h1, h2, h3⟩ := h
  obtain ⟨b1, b2, b3⟩ := h2 _ List.mem_cons_self
  refine ⟨v, ⟨own_set h1.own _ b2, h1.blk.set_ne (Ne.symm b3) _, h1.lt, by simpa [World.setCell] using h1.hB⟩, fun p hp => ?_, h3.setCell hg _⟩
  simp only [List.mem_cons] at hp
  rcases hp with rfl | hp
  · exact ⟨b1.set k u, b2, b3⟩
  · obtain ⟨c1, c2, c3⟩ := h2 p (List.mem_cons_of_mem _ hp)
    exact ⟨c1.set_ne (hK p hp) _, c2, c3⟩
theorem WSt.blk (h : WSt gc S K w0 w l) {g : Nat} {cs : List Value} {t : TypeId} (hm : (g, cs, t) ∈ K) : Blk w g cs t := by
  obtain ⟨v, h1, h2, h3⟩ := h
  exact (h2 _ hm).1
/-- 'short' as it stands. -/
theorem WSt.cd (h : WSt gc S K w0 w l) : ∃ v, Blk w gc [v, .bool false, .bool false] 86 := by
  obtain ⟨v, h1, h2, h3⟩ := h
  exact ⟨v, h1.blk⟩
theorem WSt.short (h : WSt gc S K w0 w l) (hS : gc ∈ S) : WSt gc S K w0 (w.setCell ⟨gc, 2, none⟩ (.bool false)) l := by
  obtain ⟨v, h1, h2, h3⟩ := h
  refine ⟨v, ⟨own_set h1.own _ (fun e => ?_), h1.blk.set 2 _, h1.lt, by simpa [World.setCell] using h1.hB⟩, fun p hp => ?_, h3.setCell (.inl hS) _⟩
  · have h4 := (h1.own.lt _ e).1
    have h5 := h1.lt
    simp only [] at h4
    omega
  · obtain ⟨c1, c2, c3⟩ := h2 p hp
    exact ⟨c1.set_ne c3 _, c2, c3⟩

/-- Places in blocks that are kept. -/
def At (K : List (Nat × List Value × TypeId)) (p : Nat × Nat) (v : Value) : Prop := ∃ cs t, (p.1, cs, t) ∈ K ∧ cs[p.2]? = some v
theorem num_step (k : Nat) (kk : Int) (hkk : kk = k) (hk : k ≤ 8) (g j : Nat) (x : Int) (h : WSt gc S K w0 w l) (hS : gc ∈ S) (hp : At K (g, j) (.int .i64 x)) (hl : l.length + 8 ≤ 140737488355328) :
    Calls Tryz.prog 65 #[.pointer (some ⟨gc, 0, none⟩), .int .i64 kk, .pointer (some ⟨g, j, none⟩)] w fun e w' => e = .returned (.tuple #[]) ∧ WSt gc S K w0 w' (l ++ le k x) := by
  obtain ⟨v, h1, h2, h3⟩ := h
  obtain ⟨cs, t, p1, p2⟩ := hp
  obtain ⟨b1, b2, b3⟩ := h2 _ p1
  exact (numw_lit k kk hkk hk g j x h1 ((b1.cell j).trans p2) b3 b2 hl).mono fun e w' ⟨he, hw⟩ => ⟨he, WSt.wrote h1 h2 h3 hS hw⟩
theorem text_step (g j : Nat) (x : Txt) (h : WSt gc S K w0 w l) (hS : gc ∈ S) (hp : At K (g, j) (.string (str x))) (hx : x.length ≤ 9223372036854775807) (hl : l.length + 65600 ≤ 140737488355328) :
    Calls Tryz.prog 69 #[.pointer (some ⟨gc, 0, none⟩), .pointer (some ⟨g, j, none⟩)] w fun e w' => e = .returned (.tuple #[]) ∧ WSt gc S K w0 w' (l ++ etext x) := by
  obtain ⟨v, h1, h2, h3⟩ := h
  obtain ⟨cs, t, p1, p2⟩ := hp
  obtain ⟨b1, b2, b3⟩ := h2 _ p1
  exact (textw_any g j x h1 ((b1.cell j).trans p2) b3 b2 hx hl).mono fun e w' ⟨he, hw⟩ => ⟨he, WSt.wrote h1 h2 h3 hS hw⟩
/-- A text elsewhere, in memory that is older. -/
theorem text_old (g j : Nat) (x : Txt) (h : WSt gc S K w0 w l) (hS : gc ∈ S) (hp : w0.cell? ⟨g, j, none⟩ = some (.string (str x))) (hg : g ∉ S) (hx : x.length ≤ 9223372036854775807) (hl : l.length + 65600 ≤ 140737488355328) :
    Calls Tryz.prog 69 #[.pointer (some ⟨gc, 0, none⟩), .pointer (some ⟨g, j, none⟩)] w fun e w' => e = .returned (.tuple #[]) ∧ WSt gc S K w0 w' (l ++ etext x) := by
  obtain ⟨v, h1, h2, h3⟩ := h
  have hlt := World.block_lt_of_cell? w0 _ hp
  simp only [] at hlt
  exact (textw_any g j x h1 ((h3.cell (p := ⟨g, j, none⟩) hlt hg).trans hp) (fun e => hg (by rw [e]; exact hS)) (fun e => by have := (h1.own.lt _ e).1; omega) hx hl).mono fun e w' ⟨he, hw⟩ => ⟨he, WSt.wrote h1 h2 h3 hS hw⟩
theorem numbers_step (ps : List (Nat × Nat)) (xs : List Int) (n : Nat) (h : WSt gc S K w0 w l) (hS : gc ∈ S) (hn : ps.length = n) (hxs : xs.length = n) (hn3 : n ≤ 3)
    (hp : ∀ j, (hj : j < ps.length) → (hj' : j < xs.length) → At K ps[j] (.int .i64 xs[j])) (hl : l.length + 65600 ≤ 140737488355328) :
    Calls Tryz.prog 66 #[.pointer (some ⟨gc, 0, none⟩), .slice (some ⟨w.heap.size, 0, none⟩) n n] (w.alloc (.cells (ptrs ps).toArray 100)) fun e w' => e = .returned (.tuple #[]) ∧ WSt gc S K w0 w' (l ++ (xs.map (le 8)).flatten) := by
  obtain ⟨v, h1, h2, h3⟩ := h.alloc (ptrs ps) 100
  have h4 := h2 _ List.mem_cons_self
  refine (numbersw_any ps xs w.heap.size n h1 h4.1 hn hxs hn3 (fun j hj hj' => ?_) h4.2.2 h4.2.1 hl).mono fun e w' ⟨he, hw⟩ => ⟨he, WSt.wrote h1 (fun p hp => h2 p (List.mem_cons_of_mem _ hp)) h3 hS hw⟩
  obtain ⟨cs, t, p1, p2⟩ := hp j hj hj'
  obtain ⟨b1, b2, b3⟩ := h2 _ (List.mem_cons_of_mem _ p1)
  exact ⟨(b1.cell _).trans p2, b3, b2⟩
theorem texts_step (ps : List (Nat × Nat)) (xs : List Txt) (n : Nat) (h : WSt gc S K w0 w l) (hS : gc ∈ S) (hn : ps.length = n) (hxs : xs.length = n) (hn3 : n ≤ 3)
    (hp : ∀ j, (hj : j < ps.length) → (hj' : j < xs.length) → At K ps[j] (.string (str xs[j]))) (hx : ∀ x ∈ xs, x.length ≤ 9223372036854775807) (hl : l.length + 300000 ≤ 140737488355328) :
    Calls Tryz.prog 67 #[.pointer (some ⟨gc, 0, none⟩), .slice (some ⟨w.heap.size, 0, none⟩) n n] (w.alloc (.cells (ptrs ps).toArray 103)) fun e w' => e = .returned (.tuple #[]) ∧ WSt gc S K w0 w' (l ++ (xs.map etext).flatten) := by
  obtain ⟨v, h1, h2, h3⟩ := h.alloc (ptrs ps) 103
  have h4 := h2 _ List.mem_cons_self
  refine (textsw_any ps xs w.heap.size n h1 h4.1 hn hxs hn3 (fun j hj hj' => ?_) h4.2.2 h4.2.1 hx hl).mono fun e w' ⟨he, hw⟩ => ⟨he, WSt.wrote h1 (fun p hp => h2 p (List.mem_cons_of_mem _ hp)) h3 hS hw⟩
  obtain ⟨cs, t, p1, p2⟩ := hp j hj hj'
  obtain ⟨b1, b2, b3⟩ := h2 _ (List.mem_cons_of_mem _ p1)
  exact ⟨(b1.cell _).trans p2, b3, b2⟩
/-- Two texts elsewhere. -/
theorem texts_old (g j : Nat) (x y : Txt) (h : WSt gc S K w0 w l) (hS : gc ∈ S) (hp : w0.cell? ⟨g, j, none⟩ = some (.string (str x))) (hq : w0.cell? ⟨g, j + 1, none⟩ = some (.string (str y))) (hg : g ∉ S) (hx : x.length ≤ 9223372036854775807) (hy : y.length ≤ 9223372036854775807) (hl : l.length + 300000 ≤ 140737488355328) :
    Calls Tryz.prog 67 #[.pointer (some ⟨gc, 0, none⟩), .slice (some ⟨w.heap.size, 0, none⟩) 2 2] (w.alloc (.cells (ptrs [(g, j), (g, j + 1)]).toArray 103)) fun e w' => e = .returned (.tuple #[]) ∧ WSt gc S K w0 w' (l ++ (etext x ++ etext y)) := by
  obtain ⟨v, h1, h2, h3⟩ := h.alloc (ptrs [(g, j), (g, j + 1)]) 103
  have h4 := h2 _ List.mem_cons_self
  have hlt := World.block_lt_of_cell? w0 _ hp
  simp only [] at hlt
  have g1 : g ≠ gc := fun e => hg (by rw [e]; exact hS)
  have g2 : v.ownBlock ≠ some g := fun e => by have := (h1.own.lt _ e).1; omega
  have e1 := (h3.cell (p := ⟨g, j, none⟩) hlt hg).trans hp
  have e2 := (h3.cell (p := ⟨g, j + 1, none⟩) hlt hg).trans hq
  refine (textsw_any [(g, j), (g, j + 1)] [x, y] w.heap.size 2 h1 h4.1 rfl rfl (by omega) (fun i hi hi' => ?_) h4.2.2 h4.2.1 (by simp [hx, hy]) hl).mono fun e w' ⟨he, hw⟩ => ⟨he, ?_⟩
  · match i, hi with
    | 0, _ => exact ⟨e1, g1, g2⟩
    | 1, _ => exact ⟨e2, g1, g2⟩
  · have := WSt.wrote h1 (fun p hp => h2 p (List.mem_cons_of_mem _ hp)) h3 hS hw
    simpa using this
theorem many_step (g j n : Nat) {cs : List Value} {t : TypeId} {F : FuncId} (h : WSt gc S K w0 w l) (hg : g ∈ S) (hm : (g, cs, t) ∈ K)
    (hF : ∀ {v : Value}, Wr w w0.heap.size gc v l → Blk w g cs t → g ≠ gc → v.ownBlock ≠ some g → Calls Tryz.prog F #[.pointer (some ⟨gc, 0, none⟩), .pointer (some ⟨g, j, none⟩)] w fun e w' => e = .returned (.tuple #[]) ∧ WroteAt w0.heap.size gc g cs t v (l ++ le 1 (n : Int)) w w') (hS : gc ∈ S) :
    Calls Tryz.prog F #[.pointer (some ⟨gc, 0, none⟩), .pointer (some ⟨g, j, none⟩)] w fun e w' => e = .returned (.tuple #[]) ∧ WSt gc S K w0 w' (l ++ le 1 (n : Int)) := by
  obtain ⟨v, h1, h2, h3⟩ := h
  obtain ⟨b1, b2, b3⟩ := h2 _ hm
  refine (hF h1 b1 b3 b2).mono fun e w' ⟨he, hw⟩ => ⟨he, ?_⟩
  obtain ⟨v', a1, a2, a3, a4⟩ := hw
  refine ⟨v', a1, fun p hp => ?_, h3.trans a3 fun s hs => ?_⟩
  · obtain ⟨c1, c2, c3⟩ := h2 p hp
    refine ⟨?_, fun e => ?_, c3⟩
    · by_cases hpg : p.1 = g
      · rw [hpg] at c1 ⊢
        unfold Blk at c1 b1
        rw [b1] at c1
        injection c1 with e2
        injection e2 with e3 e4 e5
        rw [← e4, ← List.toArray_inj e3]
        exact a2
      · exact c1.chg a3 (by simp [c3, hpg]; exact fun e => c2 e)
    · rcases a4 _ e with h | h
      · exact c2 h
      · have := c1.lt
        omega
  · simp at hs
    rcases hs with rfl | rfl | hs
    · exact .inl hS
    · exact .inl hg
    · exact .inr (h1.own.lt s hs).1
end
/-- Where a slice that is not empty lies. -/
theorem Vs.lit {w : World} {B size n : Nat} {A : Option Addr} {xs : List Value} (h : Vs w B size A n xs) (h0 : 0 < xs.length) : ∃ b off, A = some ⟨b, off, none⟩ ∧ b < B ∧ ∀ j u, xs[j]? = some u → w.cell? ⟨b, off + j, none⟩ = some u := by
  obtain ⟨ad, e, hb, hc⟩ := Vs.rd h 0 _ (List.getElem?_eq_getElem h0)
  have hsp := World.cell?_spot hc
  obtain ⟨b, o, s⟩ := ad
  simp [Addr.add] at hsp
  subst hsp
  refine ⟨b, o, e, hb, fun j u hj => ?_⟩
  obtain ⟨ad2, e2, _, c⟩ := Vs.rd h j u hj
  rw [e] at e2
  injection e2 with e2
  subst e2
  have : (⟨b, o, none⟩ : Addr).add j = ⟨b, o + j, none⟩ := by
    unfold Addr.add
    split <;> simp_all
  rw [this] at c
  exact c
end Go.Proofs.YtmbpnkacggngkaaGreatDoor
