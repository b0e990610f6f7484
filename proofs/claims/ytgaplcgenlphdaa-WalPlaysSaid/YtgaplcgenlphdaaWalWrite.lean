/- THE WALK of write. -/
import Derived.Test.YtgaplcgenlphdaaWalIter
import Derived.BigRegion
namespace Go.Proofs.Ytgaplcgenlphdaa
open Go.RowKit Go.Shelf Mem
attribute [local go_sem] Oper.semAt_some

theorem sectors_any (A : Option Addr) (n c : Nat) (w : World) : Calls Try.prog 45 #[.slice A n c] w fun e w' => e = .returned (.func (.func 48) #[] #[.pointer (some ⟨w.heap.size, 0, none⟩)]) ∧ w' = w.alloc (.cells #[.slice A n c] 23) := by
  go_enter Try.func45, Try.ntmps45
  go_wp2
  go_ret
  exact ⟨rfl, rfl⟩

/-- What the loads of a round's write read. -/
structure RoundS (b0 b1 b3 q p : Nat) (side pos : Nat) (W : World) : Prop where
  c0 : W.cell? ⟨b0, 0, none⟩ = some (.pointer (some ⟨q, 0, none⟩))
  c1 : W.cell? ⟨q, 0, none⟩ = some (.pointer (some ⟨p, 0, none⟩))
  c2 : W.cell? ⟨b1, 0, none⟩ = some (.int .i64 (side : Int))
  c3 : W.cell? ⟨b3, 0, none⟩ = some (.int .i64 (pos : Int))

theorem wpOp_enter {P : Program} {ops : Array Oper} {Q : Exit → Act → World → Prop} {i : Nat} {o : Oper} {K : Act → World → Prop} {a : Act} {w : World} {f : FuncId} {args : Array Value} (ho : ops[i]? = some o) (hw : Region.wanted o (yielded ops a.tmps) = true)
    (he : (execOp a.eval o).run P w = .ok (.enter f args) w) (hc : Calls P f args w fun e w' => ∃ v, e = .returned v ∧ K (a.put o.dst v) w') : wpOp P ops Q i K a w := by
  unfold wpOp
  rw [ho]
  simp only
  rw [if_pos hw]
  left
  unfold Oper.wp
  rw [he]
  exact hc.mono (fun e w'' ⟨v, hv, hk⟩ => by subst hv; exact hk)
theorem RoundS.chg {b0 b1 b3 q p side pos : Nat} {S : List Nat} {W W' : World} (h : RoundS b0 b1 b3 q p side pos W) (hc : Chg S W W') (h0 : b0 ∉ S) (h1 : b1 ∉ S) (h3 : b3 ∉ S) (hq : q ∉ S) : RoundS b0 b1 b3 q p side pos W' :=
  ⟨(hc.cell (p := ⟨b0, 0, none⟩) (World.block_lt_of_cell? W _ h.c0) h0).trans h.c0, (hc.cell (p := ⟨q, 0, none⟩) (World.block_lt_of_cell? W _ h.c1) hq).trans h.c1,
    (hc.cell (p := ⟨b1, 0, none⟩) (World.block_lt_of_cell? W _ h.c2) h1).trans h.c2, (hc.cell (p := ⟨b3, 0, none⟩) (World.block_lt_of_cell? W _ h.c3) h3).trans h.c3⟩

/-- Between two rounds. -/
structure RoundI (w w5 : World) (q p g s u : Nat) (b : Bool) (d : DS) (side at_ base : Nat) (C : Wal.Secs) (hd : List UInt8) (k : Nat) (W : World) (d' : DS) : Prop where
  hw : Wal.wrAll d (Wal.place base C ++ Wal.heads hd) = Wal.wrAll d' (Wal.place (base + k) (C.drop k) ++ Wal.heads hd)
  dn : d'.down = false
  len : d'.secs.length = d.secs.length
  wr : d'.writes ≤ d.writes + k
  disk : IsDisk W p g d'
  log : IsLog W q p s u b
  rs : RoundS w.heap.size (w.heap.size + 1) (w.heap.size + 1 + 1 + 1) q p side (at_ + k) W
  c2 : W.cell? ⟨w.heap.size + 1 + 1, 0, none⟩ = some (.int .i64 0)
  f2 : W.frozen? ⟨w.heap.size + 1 + 1, 0, none⟩ = false
  f3 : W.frozen? ⟨w.heap.size + 1 + 1 + 1, 0, none⟩ = false
  chg : Chg [p, g, w.heap.size + 1 + 1, w.heap.size + 1 + 1 + 1] w5 W
/-- Behind a write that failed. -/
def RoundX (w w5 : World) (q p g s u : Nat) (b : Bool) (d : DS) (base : Nat) (C : Wal.Secs) (hd : List UInt8) (c : Code) (W : World) : Prop :=
  c = .ret ∧ ∃ d' x, x ≠ 0 ∧ Wal.wrAll d (Wal.place base C ++ Wal.heads hd) = (d', x) ∧ IsDisk W p g d' ∧ IsLog W q p s u b ∧ W.cell? ⟨w.heap.size + 1 + 1, 0, none⟩ = some (.int .i64 x) ∧ Chg [p, g, w.heap.size + 1 + 1, w.heap.size + 1 + 1 + 1] w5 W

theorem RoundI.keep {w w5 : World} {q p g s u : Nat} {b : Bool} {d : DS} {side at_ base : Nat} {C : Wal.Secs} {hd : List UInt8} {k : Nat} {W W' : World} {d' : DS} {S : List Nat} (h : RoundI w w5 q p g s u b d side at_ base C hd k W d') (hc : Chg S W W') (z5 : w5.heap.size = w.heap.size + 1 + 1 + 1 + 1 + 1) (hp : p < w.heap.size) (hg : g < w.heap.size) (hq : q < w.heap.size) (hS : ∀ s, s ∈ S → w5.heap.size ≤ s) : RoundI w w5 q p g s u b d side at_ base C hd k W' d' := by
  have nin : ∀ x, x < w5.heap.size → x ∉ S := fun x hx hm => by have := hS x hm; omega
  refine ⟨h.hw, h.dn, h.len, h.wr, h.disk.chg hc (nin _ (by omega)) (nin _ (by omega)), h.log.chg hc (nin _ (by omega)), h.rs.chg hc (nin _ (by omega)) (nin _ (by omega)) (nin _ (by omega)) (nin _ (by omega)), ?_, ?_, ?_, h.chg.trans hc fun s hs => .inr (hS s hs)⟩
  · exact (hc.cell (p := ⟨w.heap.size + 1 + 1, 0, none⟩) (World.block_lt_of_cell? W _ h.c2) (nin _ (by simp; omega))).trans h.c2
  · exact (hc.frozen (p := ⟨w.heap.size + 1 + 1, 0, none⟩) (World.block_lt_of_cell? W _ h.c2) (nin _ (by simp; omega))).trans h.f2
  · exact (hc.frozen (p := ⟨w.heap.size + 1 + 1 + 1, 0, none⟩) (World.block_lt_of_cell? W _ h.rs.c3) (nin _ (by simp; omega))).trans h.f3
theorem RoundX.keep {w w5 : World} {q p g s u : Nat} {b : Bool} {d : DS} {base : Nat} {C : Wal.Secs} {hd : List UInt8} {c : Code} {W W' : World} {S : List Nat} (h : RoundX w w5 q p g s u b d base C hd c W) (hc : Chg S W W') (z5 : w5.heap.size = w.heap.size + 1 + 1 + 1 + 1 + 1) (hp : p < w.heap.size) (hg : g < w.heap.size) (hq : q < w.heap.size) (hS : ∀ s, s ∈ S → w5.heap.size ≤ s) : RoundX w w5 q p g s u b d base C hd c W' := by
  have nin : ∀ x, x < w5.heap.size → x ∉ S := fun x hx hm => by have := hS x hm; omega
  obtain ⟨h0, d', x, h1, h2, h3, h4, h5, h6⟩ := h
  exact ⟨h0, d', x, h1, h2, h3.chg hc (nin _ (by omega)) (nin _ (by omega)), h4.chg hc (nin _ (by omega)), (hc.cell (p := ⟨w.heap.size + 1 + 1, 0, none⟩) (World.block_lt_of_cell? W _ h5) (nin _ (by simp; omega))).trans h5, h6.trans hc fun s hs => .inr (hS s hs)⟩
theorem RsX.wide {w : World} {S S' : List Nat} {A : Option Addr} {n : Nat} {L : List (List UInt8)} (h : RsX w S A n L) (hS : ∀ s, s ∈ S' → s ∈ S ∨ w.heap.size ≤ s) : RsX w S' A n L :=
  ⟨h.len, fun i hi => by
    obtain ⟨ad, A', n', c', e, h1, h2, h3, h4, h5, h6, h7⟩ := h.rd i hi
    refine ⟨ad, A', n', c', e, h1, fun hm => ?_, h3, h4, h5, h6, fun a' ha hn hm => ?_⟩
    · rcases hS _ hm with h8 | h8
      · exact h2 h8
      · omega
    · rcases hS _ hm with h8 | h8
      · exact h7 a' ha hn h8
      · have : 0 < (bv L[i]).length := by rw [bv_length, h6.len]; exact hn
        obtain ⟨a2, e2, hlt, _⟩ := Vs.rd h6 0 _ (List.getElem?_eq_getElem this)
        rw [ha] at e2
        injection e2 with e2
        subst e2
        omega⟩

/-- What write leaves. -/
def Wrote (w : World) (q p g s u : Nat) (b : Bool) (side used : Nat) (r : DS × Int) (e : Ending) (w' : World) : Prop :=
  e = .returned (.int .i64 r.2) ∧ IsDisk w' p g r.1 ∧ (if r.2 = 0 then IsLog w' q p side used b else IsLog w' q p s u b) ∧ Chg [p, g, q] w w'

section
variable {w : World} {q p g s u : Nat} {b : Bool} {d : DS}
set_option maxRecDepth 100000 in
set_option maxHeartbeats 8000000 in
theorem write_log (hl : IsLog w q p s u b) (h : IsDisk w p g d) (hqp : q ≠ p) (hqg : q ≠ g) (h7 : 7 ≤ d.secs.length) (hdn : d.down = false) (A : Option Addr) (n c : Nat) (rs : Wal.Secs) (hrx : RsX w [p, g, q] A n rs) (hlen : ∀ r ∈ rs, r.length ≤ 1000) (hn : n ≤ 1000000)
    (side at_ used : Nat) (hs1 : side ≤ 1) (hfit : at_ + Wal.sizes rs ≤ Wal.half d.secs.length) (hwr : d.writes < 900000) (hu : used = at_ + Wal.sizes rs) (R : Ending → World → Prop) (hR : ∀ e w', Wrote w q p g s u b side used (Wal.wrAll d (Wal.writes d.secs.length side at_ rs)) e w' → R e w') :
    Calls Try.prog 42 #[.pointer (some ⟨q, 0, none⟩), .slice A n c, .int .i64 (side : Int), .int .i64 (at_ : Int), .int .i64 (used : Int)] w R := by
  obtain ⟨w5, hw5⟩ : ∃ w5, ((((w.alloc (.cells #[.pointer (some ⟨q, 0, none⟩)] 22)).alloc (.cells #[.int .i64 (side : Int)] 3)).alloc (.cells #[.int .i64 0] 24)).alloc (.cells #[.int .i64 (at_ : Int)] 3)).alloc (.cells #[.slice A n c] 23) = w5 := ⟨_, rfl⟩
  obtain ⟨C, hC⟩ : ∃ C, Wal.secsAll rs = C := ⟨_, rfl⟩
  have hCl : C.length = Wal.sizes rs := by rw [← hC]; exact Wal.secsAll_length rs hlen
  have hCle : ∀ x ∈ C, x.length ≤ 128 := by rw [← hC]; exact Wal.secsAll_le hlen
  obtain ⟨base, hbase⟩ : ∃ base, 3 + side * Wal.half d.secs.length + at_ = base := ⟨_, rfl⟩
  have harea := Wal.area hs1 hfit h7
  obtain ⟨hd, hhd⟩ : ∃ hd, Wal.hdr side used = hd := ⟨_, rfl⟩
  have hh := half_bound h
  have z5 : w5.heap.size = w.heap.size + 1 + 1 + 1 + 1 + 1 := by rw [← hw5]; simp
  have hb5 : Below w.heap.size w w5 := by rw [← hw5]; exact (((((Below.refl _ _).alloc (Nat.le_refl _) _).alloc (by simp) _).alloc (by simp; omega) _).alloc (by simp; omega) _).alloc (by simp; omega) _
  have z5a := Nat.le_of_eq z5
  have z5b := Nat.le_of_eq z5.symm
  clear z5
  have hpl := h.plt
  have hgl := h.glt
  have hql := hl.qlt
  have hu1 : used ≤ 1000 := by omega
  have hws : Wal.writes d.secs.length side at_ rs = Wal.place base C ++ Wal.heads hd := by unfold Wal.writes; rw [hC, hbase, ← hu, hhd]
  have hSb : ∀ s, s ∈ [p, g, w.heap.size + 1 + 1, w.heap.size + 1 + 1 + 1] → s ∈ [p, g, q] ∨ w.heap.size ≤ s := by
    intro s hs
    simp at hs
    rcases hs with h | h | h | h
    · exact .inl (by simp [h])
    · exact .inl (by simp [h])
    · exact .inr (by omega)
    · exact .inr (by omega)
  clear hu
  refine (callsIn_wide (n := 7)).1 (callsIn_of_wp_marks Try.func42 rfl trivial (wpIn_wide.2 ?_) rfl)
  simp only [Try.ntmps42, List.size_toArray, List.length_cons, List.length_nil, Nat.reduceAdd, Nat.reduceSub, Array.replicate_succ, Array.replicate_zero, List.push_toArray, List.append_toArray, List.nil_append, List.cons_append]
  go_wp2_with fail
  refine (sectors_any _ _ _ _).mono ?_
  rintro e w4 ⟨rfl, rfl⟩
  go_wp2_with fail
  try rw [hw5]
  refine range_law (gf := 48) (lb := #[.pointer (some ⟨w.heap.size + 1 + 1 + 1 + 1, 0, none⟩)]) rfl (enters_of Try.func48 (by kernel_rfl) rfl) (N := C.length) (Sb := [p, g, w.heap.size + 1 + 1, w.heap.size + 1 + 1 + 1]) (val := SecVal C ((w5.heap.size + 1) :: [p, g, w.heap.size + 1 + 1, w.heap.size + 1 + 1 + 1])) ?sb ?hands (fun k W => ∃ d', RoundI w w5 q p g s u b d side at_ base C hd k W d') (RoundX w w5 q p g s u b d base C hd) ?hI ?hIx ?h0 ?hval (fun v => { tmps := #[.pointer (some ⟨q, 0, none⟩), .slice A n c, .int .i64 (side : Int), .int .i64 (at_ : Int), .int .i64 (used : Int), .pointer (some ⟨w.heap.size, 0, none⟩), undef, .pointer (some ⟨w.heap.size + 1, 0, none⟩), undef, undef, .pointer (some ⟨w.heap.size + 1 + 1, 0, none⟩), .pointer (some ⟨w.heap.size + 1 + 1 + 1, 0, none⟩), v, undef, undef, undef, undef, .int .i64 (at_ : Int), .slice A n c, .func (.func 48) #[] #[.pointer (some ⟨w.heap.size + 1 + 1 + 1 + 1, 0, none⟩)], v, undef, undef, undef, undef, undef, undef, undef, undef, undef, undef, undef, undef, undef, undef, undef, undef, undef, undef, undef, undef, undef, undef, undef, undef, undef, undef, undef, undef, undef, undef, undef, undef, undef, undef, undef, undef, undef, undef, undef, undef], defers := [] }) ?assign ?body ?done ?stop
  case assign =>
    intro l v W K hK
    gi_wp2
    exact hK
  case body =>
    rintro l k v W hk ⟨d', hi⟩ ⟨A', m, c', _, rfl, hmc, hbs, hblk⟩
    have hm128 : m ≤ 128 := by rw [← hbs.len]; exact hCle _ (List.getElem_mem hk)
    have hat := fun W2 (hc2 : Chg [] W W2) => at_any (hi.log.chg hc2 (by simp)) (hi.disk.chg hc2 (by simp) (by simp)) (by rw [hi.len]; exact h7) side (at_ + k) hs1 (by omega)
    rw [hi.len, show 3 + side * Wal.half d.secs.length + (at_ + k) = base + k by omega] at hat
    have hwrite := fun W2 (hc2 : Chg [] W W2) => write_any (hi.disk.chg hc2 (by simp) (by simp)) ((base + k : Nat) : Int) A' m c' C[k] (fun W3 hc3 => bs_chgX (S := [p, g]) (bs_chgX (S := []) hbs (by simp) hc2) (fun a' ha hm hmm => hblk a' ha hm (by simp at hmm ⊢; rcases hmm with h | h <;> simp [h])) hc3) (by have := hi.wr; omega)
    gi_wp2
    refine region_in_round (S := RoundS w.heap.size (w.heap.size + 1) (w.heap.size + 1 + 1 + 1) q p side (at_ + k)) (by kernel_rfl) (by decide) (by rintro ⟨_, _, hx⟩; exact hx) ?_
    have hS0 : RoundS w.heap.size (w.heap.size + 1) (w.heap.size + 1 + 1 + 1) q p side (at_ + k) { W with drawn := W.drawn + 1 } := ⟨hi.rs.c0, hi.rs.c1, hi.rs.c2, hi.rs.c3⟩
    refine wpAnyH_take (i := 0) (v := .pointer (some ⟨q, 0, none⟩)) rfl (by decide +kernel) (by decide +kernel) (by decide +kernel) (fun _ _ _ h => h) (.inl ⟨rfl, fun W' hS => by have e := hS.c0; go_simp⟩) hS0 ?_
    refine wpAnyH_take (i := 1) (v := .pointer (some ⟨q, 0, none⟩)) rfl (by decide +kernel) (by decide +kernel) (by decide +kernel) (fun _ _ _ h => h) (.inl ⟨rfl, fun W' hS => by go_simp⟩) hS0 ?_
    refine wpAnyH_take (i := 2) (v := .pointer (some ⟨q, 0, none⟩)) rfl (by decide +kernel) (by decide +kernel) (by decide +kernel) (fun _ _ _ h => h) (.inl ⟨rfl, fun W' hS => by go_simp⟩) hS0 ?_
    refine wpAnyH_take (i := 3) (v := .pointer (some ⟨p, 0, none⟩)) rfl (by decide +kernel) (by decide +kernel) (by decide +kernel) (fun _ _ _ h => h) (.inl ⟨rfl, fun W' hS => by have e := hS.c1; go_simp⟩) hS0 ?_
    refine wpAnyH_take (i := 4) (v := .pointer (some ⟨q, 0, none⟩)) rfl (by decide +kernel) (by decide +kernel) (by decide +kernel) (fun _ _ _ h => h) (.inl ⟨rfl, fun W' hS => by have e := hS.c0; go_simp⟩) hS0 ?_
    refine wpAnyH_take (i := 5) (v := .int .i64 (side : Int)) rfl (by decide +kernel) (by decide +kernel) (by decide +kernel) (fun _ _ _ h => h) (.inl ⟨rfl, fun W' hS => by have e := hS.c2; go_simp⟩) hS0 ?_
    refine wpAnyH_take (i := 6) (v := .int .i64 ((at_ + k : Nat) : Int)) rfl (by decide +kernel) (by decide +kernel) (by decide +kernel) (fun _ _ _ h => h) (.inl ⟨rfl, fun W' hS => by have e := hS.c3; go_simp⟩) hS0 ?_
    refine wpAnyH_take (i := 8) (v := .slice A' m c') rfl (by decide +kernel) (by decide +kernel) (by decide +kernel) (fun _ _ _ h => h) (.inl ⟨rfl, fun W' hS => by go_simp⟩) hS0 ?_
    have hc0 : Chg [] W { W with drawn := W.drawn + 1 } := (Chg.refl [] W).drew
    refine wpAnyH_all (rs := [7]) (by decide +kernel) (by simp) ?_
    intro i hi7
    obtain rfl : i = 7 := by simpa using hi7
    refine wpOp_enter (f := 29) (args := #[.pointer (some ⟨q, 0, none⟩), .int .i64 (side : Int), .int .i64 ((at_ + k : Nat) : Int)]) rfl rfl (by go_simp) ((hat _ hc0).mono ?_)
    rintro e W2 ⟨rfl, rfl⟩
    refine ⟨_, rfl, hS0, ?_⟩
    refine wpAnyH_all (rs := [9]) (by decide +kernel) (by simp) ?_
    intro i hi9
    obtain rfl : i = 9 := by simpa using hi9
    refine wpOp_enter (f := 17) (args := #[.pointer (some ⟨p, 0, none⟩), .int .i64 ((base + k : Nat) : Int), .slice A' m c']) rfl rfl (by go_simp) ((hwrite _ hc0).mono ?_)
    rintro e W3 ⟨rfl, id3, hc3⟩
    have hS3 : RoundS w.heap.size (w.heap.size + 1) (w.heap.size + 1 + 1 + 1) q p side (at_ + k) W3 := hS0.chg hc3 (by simp; omega) (by simp; omega) (by simp; omega) (by simp; omega)
    refine ⟨_, rfl, hS3, ?_⟩
    refine wpAnyH_take (i := 10) (v := .int .i64 (d'.writeErr ((base + k : Nat) : Int) C[k])) rfl (by decide +kernel) (by decide +kernel) (by decide +kernel) (fun _ _ _ h => h) (.inl ⟨rfl, fun W' hS => by go_simp⟩) hS3 ?_
    refine And.intro (by decide +kernel) ?_
    have hfa := write_facts d' ((base + k : Nat) : Int) C[k]
    have hxc := writeErr_cases d' ((base + k : Nat) : Int) C[k]
    have hstep : Wal.wrAll d (Wal.place base C ++ Wal.heads hd) = if d'.writeErr ((base + k : Nat) : Int) C[k] = 0 then Wal.wrAll (d'.write ((base + k : Nat) : Int) C[k]) (Wal.place (base + (k + 1)) (C.drop (k + 1)) ++ Wal.heads hd) else (d'.write ((base + k : Nat) : Int) C[k], d'.writeErr ((base + k : Nat) : Int) C[k]) := by
      rw [hi.hw, List.drop_eq_getElem_cons hk]
      rfl
    have f2 := (hc3.frozen (p := ⟨w.heap.size + 1 + 1, 0, none⟩) (World.block_lt_of_cell? W _ hi.c2) (by simp; omega)).trans hi.f2
    have f3 := (hc3.frozen (p := ⟨w.heap.size + 1 + 1 + 1, 0, none⟩) (World.block_lt_of_cell? W _ hi.rs.c3) (by simp; omega)).trans hi.f3
    have c2 := (hc3.cell (p := ⟨w.heap.size + 1 + 1, 0, none⟩) (World.block_lt_of_cell? W _ hi.c2) (by simp; omega)).trans hi.c2
    have c3 := hS3.c3
    have hcW3 : Chg [p, g, w.heap.size + 1 + 1, w.heap.size + 1 + 1 + 1] W W3 := hc0.mono (by simp) |>.and (hc3.mono fun s hs => by simp at hs; rcases hs with h | h <;> simp [h])
    have il3 := hi.log.chg hcW3 (by simp; omega)
    have hwr3 := hi.wr
    have hchg := hi.chg
    generalize d'.writeErr ((base + k : Nat) : Int) C[k] = x at *
    generalize d'.write ((base + k : Nat) : Int) C[k] = d3 at *
    have HFA := Lib.hid hfa
    have HST := Lib.hid hstep
    have HI := Lib.hid hi
    clear hfa hstep hat hwrite hbs hblk hS0 hi
    by_cases hx : x = 0
    · subst hx
      clear hxc
      gi_wp2_with fail
      have hpos : Value.int .i64 ((at_ : Int) + (k : Int) + 1) = .int .i64 ((at_ + (k + 1) : Nat) : Int) := by go_num
      have hc4 : Chg [p, g, w.heap.size + 1 + 1, w.heap.size + 1 + 1 + 1] W3 (W3.setCell ⟨w.heap.size + 1 + 1 + 1, 0, none⟩ (.int .i64 ((at_ : Int) + (k : Int) + 1))) := (Chg.refl _ W3).setCell (p := ⟨w.heap.size + 1 + 1 + 1, 0, none⟩) (.inl (by simp)) _
      have hc5 : Chg [w.heap.size + 1 + 1 + 1] W3 (W3.setCell ⟨w.heap.size + 1 + 1 + 1, 0, none⟩ (.int .i64 ((at_ : Int) + (k : Int) + 1))) := (Chg.refl _ W3).setCell (p := ⟨w.heap.size + 1 + 1 + 1, 0, none⟩) (.inl (by simp)) _
      refine ⟨hcW3.and hc4, d3, ⟨?_, HFA.out.2.2 (by trivial), HFA.out.1.trans HI.out.len, by have := HFA.out.2.1; omega, id3.chg hc5 (by simp; omega) (by simp; omega), il3.chg hc5 (by simp; omega), ?_, ?_, by simpa using f2, by simpa using f3, (hchg.and hcW3).and hc4⟩⟩
      · rw [HST.out]
        exact if_pos (by trivial)
      · refine ⟨(setc_far _ _ _ _ _ _ (by omega)).trans hS3.c0, (setc_far _ _ _ _ _ _ (by omega)).trans hS3.c1, (setc_far _ _ _ _ _ _ (by omega)).trans hS3.c2, ?_⟩
        rw [← hpos]
        exact setc_same _ _ _ _ _ hS3.c3
      · exact (setc_far _ _ _ _ _ _ (by omega)).trans c2
    · have hww := HST.out
      rw [if_neg hx] at hww
      have HWW := Lib.hid hww
      have HX := Lib.hid hx
      have hxx := hxc.resolve_left hx
      clear hww hx hxc
      have hfin : ∀ x : Int, x ≠ 0 → Wal.wrAll d (Wal.place base C ++ Wal.heads hd) = (d3, x) → BodyPost [p, g, w.heap.size + 1 + 1, w.heap.size + 1 + 1 + 1] (fun W => ∃ d', RoundI w w5 q p g s u b d side at_ base C hd (k + 1) W d') (RoundX w w5 q p g s u b d base C hd) W .ret { tmps := #[], defers := [] } (W3.setCell ⟨w.heap.size + 1 + 1, 0, none⟩ (.int .i64 x)) := by
        intro x hx hww
        have hc4 : Chg [p, g, w.heap.size + 1 + 1, w.heap.size + 1 + 1 + 1] W3 (W3.setCell ⟨w.heap.size + 1 + 1, 0, none⟩ (.int .i64 x)) := (Chg.refl _ W3).setCell (p := ⟨w.heap.size + 1 + 1, 0, none⟩) (.inl (by simp)) _
        have hc5 : Chg [w.heap.size + 1 + 1] W3 (W3.setCell ⟨w.heap.size + 1 + 1, 0, none⟩ (.int .i64 x)) := (Chg.refl _ W3).setCell (p := ⟨w.heap.size + 1 + 1, 0, none⟩) (.inl (by simp)) _
        exact ⟨hcW3.and hc4, rfl, d3, x, hx, hww, id3.chg hc5 (by simp; omega) (by simp; omega), il3.chg hc5 (by simp; omega), setc_same _ _ _ _ _ c2, (hchg.and hcW3).and hc4⟩
      have HFIN := Lib.hid hfin
      clear hfin
      rcases hxx with rfl | rfl
      all_goals
        gi_wp2_with fail
        exact HFIN.out _ (by omega) HWW.out
  case sb =>
    intro s hs
    simp at hs
    omega
  case hands =>
    intro W hc hz
    refine sectors1_hands rs _ _ W (w.heap.size + 1 + 1 + 1 + 1) A n c ?_ ?_ hlen hn ?_ |> fun h => by rw [hC] at h; exact h
    · rw [hc.cell (p := ⟨w.heap.size + 1 + 1 + 1 + 1, 0, none⟩) (by simp; omega) (by simp), ← hw5]
      have := cell_new ((((w.alloc (.cells #[.pointer (some ⟨q, 0, none⟩)] 22)).alloc (.cells #[.int .i64 (side : Int)] 3)).alloc (.cells #[.int .i64 0] 24)).alloc (.cells #[.int .i64 (at_ : Int)] 3)) #[.slice A n c] 23 (0, 0) 0
      simpa using this
    · refine RsX.chg (RsX.below (hrx.wide fun s hs => ?_) hb5) (hc.mono (by simp))
      simp at hs
      rcases hs with h | h | h | h | h
      · exact .inr (by omega)
      · exact .inl (by simp [h])
      · exact .inl (by simp [h])
      · exact .inr (by omega)
      · exact .inr (by omega)
    · intro s hs
      simp at hs
      omega
  case hI =>
    rintro k W W' ⟨d', hi⟩ hc
    exact ⟨d', hi.keep hc (by omega) hpl hgl hql (by intro s hs; simp at hs; omega)⟩
  case hIx =>
    intro c W W' hi hc
    exact hi.keep hc (by omega) hpl hgl hql (by intro s hs; simp at hs; omega)
  case hval =>
    intro v W W' k hv hc
    exact hv.chg hc (by simp)
  case h0 =>
    have k0 : ∀ (i : Nat) (X : Array Value) (t : TypeId), w5.heap[w.heap.size + i]? = some (.cells X t (0, 0)) → w5.cell? ⟨w.heap.size + i, 0, none⟩ = X[0]? ∧ w5.frozen? ⟨w.heap.size + i, 0, none⟩ = false := fun i X t hx => ⟨cell_of_row _ _ _ _ _ _ hx, frozen_of_row _ _ _ _ _ hx⟩
    have e0 : w5.heap[w.heap.size + 0]? = some (.cells #[.pointer (some ⟨q, 0, none⟩)] 22 (0, 0)) := by
      rw [← hw5, Below.heap_alloc _ _ _ (by simp; try omega), Below.heap_alloc _ _ _ (by simp; try omega), Below.heap_alloc _ _ _ (by simp; try omega), Below.heap_alloc _ _ _ (by simp; try omega)]
      have := heap_alloc_last w (.cells #[.pointer (some ⟨q, 0, none⟩)] 22)
      simpa using this
    have e1 : w5.heap[w.heap.size + 1]? = some (.cells #[.int .i64 (side : Int)] 3 (0, 0)) := by
      rw [← hw5, Below.heap_alloc _ _ _ (by simp; try omega), Below.heap_alloc _ _ _ (by simp; try omega), Below.heap_alloc _ _ _ (by simp; try omega)]
      have := heap_alloc_last (w.alloc (.cells #[.pointer (some ⟨q, 0, none⟩)] 22)) (.cells #[.int .i64 (side : Int)] 3)
      simpa using this
    have e2 : w5.heap[w.heap.size + 2]? = some (.cells #[.int .i64 0] 24 (0, 0)) := by
      rw [← hw5, Below.heap_alloc _ _ _ (by simp; try omega), Below.heap_alloc _ _ _ (by simp; try omega)]
      have := heap_alloc_last ((w.alloc (.cells #[.pointer (some ⟨q, 0, none⟩)] 22)).alloc (.cells #[.int .i64 (side : Int)] 3)) (.cells #[.int .i64 0] 24)
      simpa using this
    have e3 : w5.heap[w.heap.size + 3]? = some (.cells #[.int .i64 (at_ : Int)] 3 (0, 0)) := by
      rw [← hw5, Below.heap_alloc _ _ _ (by simp; try omega)]
      have := heap_alloc_last (((w.alloc (.cells #[.pointer (some ⟨q, 0, none⟩)] 22)).alloc (.cells #[.int .i64 (side : Int)] 3)).alloc (.cells #[.int .i64 0] 24)) (.cells #[.int .i64 (at_ : Int)] 3)
      simpa using this
    have il5 := hl.chg (Chg.of_below (S := []) hb5) (by simp)
    refine ⟨d, ⟨rfl, hdn, rfl, by omega, h.chg (Chg.of_below (S := []) hb5) (by simp) (by simp), il5, ⟨(k0 0 _ _ e0).1, il5.c0, (k0 1 _ _ e1).1, (k0 3 _ _ e3).1⟩, (k0 2 _ _ e2).1, (k0 2 _ _ e2).2, (k0 3 _ _ e3).2, Chg.refl _ _⟩⟩
  case stop =>
    rintro c W ⟨rfl, d', x, hx, hw, id, il, cx, hc⟩ hK
    go_wp2_with fail
    refine ⟨by simp, .inl ⟨_, _, rfl, run_takeDeferred hK, ?_⟩⟩
    have hcp := chg_putObj W w5.heap.size (.deferred none)
    have cx2 := (hcp.cell (p := ⟨w.heap.size + 1 + 1, 0, none⟩) (World.block_lt_of_cell? W _ cx) (by simp; omega)).trans cx
    refine ⟨.int .i64 x, by simp [results, Try.f42, go_sem, cx2], ?_⟩
    refine hR _ _ ⟨by rw [hws, hw], by rw [hws, hw]; exact id.chg hcp (by simp; omega) (by simp; omega), ?_, ?_⟩
    · rw [hws, hw, if_neg hx]
      exact il.chg hcp (by simp; omega)
    · exact ((Chg.of_below (S := [p, g, q]) hb5).trans hc hSb).trans hcp (by intro s hs; simp at hs; exact .inr (by omega))
  case done =>
    rintro W ⟨d', hi⟩ hK
    have hw1 := hi.hw
    rw [List.drop_of_length_le (Nat.le_refl _)] at hw1
    have HW1 := Lib.hid hw1
    have c2 := hi.rs.c2
    have cr := hi.c2
    have fr := hi.f2
    have hof := hof_any side used hs1 hu1 W
    rw [hhd] at hof
    have hhl : hd.length = 128 := by rw [← hhd]; exact Wal.hdr_len _ _
    have HOF := Lib.hid hof
    have HHL := Lib.hid hhl
    have hC126 : C.length ≤ 126 := by omega
    clear hw1 hof hhl hlen hrx hCle hw5 hhd hbase harea hCl hC
    go_wp2_with fail
    refine HOF.out.mono ?_
    rintro e W1 ⟨rfl, hb1⟩
    have hcl := bv_cells hd HHL.out
    have hbz := heap_alloc_last W1 (.cells zhead 57)
    have g1 := (arr_block hbz (n := 128) zhead_size).2
    have g2 := fre_block (o := 0) (n := 128) hbz
    obtain ⟨W2, hW2⟩ : ∃ W2, (W1.alloc (.cells zhead 57)).setCells W1.heap.size 0 (bv hd) = W2 := ⟨_, rfl⟩
    have hA1 : Arr W2 W1.heap.size 0 hd := by rw [← hW2]; exact Arr.of_setCells hd _ _ _ (by rw [HHL.out]; exact g1)
    have hb2 : Below W1.heap.size W1 W2 := by rw [← hW2]; exact ((Chg.of_below (S := []) ((Below.refl _ _).alloc (Nat.le_refl _) _)).setCells _ (.inr (Nat.le_refl _))).below (by simp)
    have hz2 : W2.heap.size = W1.heap.size + 1 := by rw [← hW2, size_setCells]; simp
    have hc02 : Chg [] W W2 := Chg.of_below (hb1.trans (hb2.mono hb1.size))
    have hz1 := hb1.size
    have hz0 := hi.chg.size
    have id2 := hi.disk.chg hc02 (by simp) (by simp)
    have il2 := hi.log.chg hc02 (by simp)
    have r2 := hi.rs.chg hc02 (by simp) (by simp) (by simp) (by simp)
    have cr2 := (hc02.cell (p := ⟨w.heap.size + 1 + 1, 0, none⟩) (World.block_lt_of_cell? W _ cr) (by simp)).trans cr
    have fr2 := (hc02.frozen (p := ⟨w.heap.size + 1 + 1, 0, none⟩) (World.block_lt_of_cell? W _ cr) (by simp)).trans fr
    have hK2 := (hc02.block _ (Array.getElem?_eq_some_iff.1 hK).1 (by simp)).trans hK
    have hDlt : w5.heap.size < W.heap.size := (Array.getElem?_eq_some_iff.1 hK).1
    have hchg2 := hi.chg.and (hc02.mono (by simp))
    have hdn' := hi.dn
    have hlen' := hi.len
    have hwr' := hi.wr
    have HA1 := Lib.hid hA1
    have ID2 := Lib.hid id2
    have R2 := Lib.hid r2
    have IL2 := Lib.hid il2
    have HZ2 := Lib.hid hz2
    have HK2 := Lib.hid hK2
    have HHI := Lib.hid hi
    clear hbz hA1 hb2 hz2 hi id2 r2 il2 hK2 hK c2 cr fr HOF
    go_wp2_with fail
    go_loopw [15, 16, 39] (fun _ _ i wr => ∃ j : Nat, ∃ d2 : DS, j ≤ 3 ∧ i = .int .i64 j ∧ Hid (Wal.wrAll d' (Wal.heads hd) = Wal.wrAll d2 ((Wal.heads hd).drop j)) ∧ d2.down = false ∧ d2.secs.length = d.secs.length ∧ d2.writes ≤ d'.writes + j ∧ IsDisk wr p g d2 ∧ Chg [p, g] W2 wr) (fun _ _ i _ => 3 - (intOf i).toNat)
    case atStart => exact ⟨0, d', by omega, rfl, Lib.hid rfl, hdn', hlen', by omega, ID2.out, Chg.refl _ _⟩
    case round =>
      obtain ⟨j, d2, hj, rfl, HW, hdn2, hlen2, hwr2, idr, hcr⟩ := hrel
      have hz2 := HZ2.out
      have hzr := hcr.size
      have hn0 : W.heap.size ≤ W1.heap.size := hz1
      have ilr := IL2.out.chg hcr (by simp; omega)
      have rr := R2.out.chg hcr (by simp; omega) (by simp; omega) (by simp; omega) (by simp; omega)
      have crr := (hcr.cell (p := ⟨w.heap.size + 1 + 1, 0, none⟩) (World.block_lt_of_cell? W2 _ cr2) (by simp; omega)).trans cr2
      have frr := (hcr.frozen (p := ⟨w.heap.size + 1 + 1, 0, none⟩) (World.block_lt_of_cell? W2 _ cr2) (by simp; omega)).trans fr2
      have hKr := (hcr.block _ (Array.getElem?_eq_some_iff.1 HK2.out).1 (by simp; omega)).trans HK2.out
      have hchgr := hchg2.and (hcr.mono (S' := [p, g, w.heap.size + 1 + 1, w.heap.size + 1 + 1 + 1]) (fun s hs => by simp at hs; rcases hs with h | h <;> simp [h]))
      have B1 : Arr wr W1.heap.size 0 hd := fun i hi => by
        rw [hcr.cell (p := ⟨W1.heap.size, 0 + i, none⟩) (by show W1.heap.size < _; omega) (by simp; omega)]
        exact HA1.out i hi
      have r0 := rr.c0
      have r1 := rr.c1
      have RR := Lib.hid rr
      have ILR := Lib.hid ilr
      have HKR := Lib.hid hKr
      have HDN := Lib.hid hdn2
      have HLN := Lib.hid hlen2
      have hfin : ∀ (WF : World) (d4 : DS) (x : Int), Wal.wrAll d' (Wal.heads hd) = (d4, x) → IsDisk WF p g d4 → (if x = 0 then IsLog WF q p side used b else IsLog WF q p s u b) → Chg [p, g, q, w.heap.size + 1 + 1] wr WF → Wrote w q p g s u b side used (Wal.wrAll d (Wal.writes d.secs.length side at_ rs)) (.returned (.int .i64 x)) (WF.putObj w5.heap.size (.deferred none)) := by
        intro WF d4 x hx id4 hlx hcx
        have hcp := chg_putObj WF w5.heap.size (.deferred none)
        have e : Wal.wrAll d (Wal.writes d.secs.length side at_ rs) = (d4, x) := by rw [hws, HW1.out]; exact hx
        rw [e]
        refine ⟨rfl, id4.chg hcp (by simp; omega) (by simp; omega), ?_, ?_⟩
        · by_cases hx0 : x = 0
          · rw [if_pos hx0] at hlx ⊢
            exact hlx.chg hcp (by simp; omega)
          · rw [if_neg hx0] at hlx ⊢
            exact hlx.chg hcp (by simp; omega)
        · refine (((Chg.of_below (S := [p, g, q]) hb5).trans hchgr hSb).trans hcx ?_).trans hcp (by intro s hs; simp at hs; exact .inr (by omega))
          intro s hs
          simp at hs
          rcases hs with h | h | h | h
          · exact .inl (by simp [h])
          · exact .inl (by simp [h])
          · exact .inl (by simp [h])
          · exact .inr (by omega)
      have HFIN := Lib.hid hfin
      by_cases hlt : j < 3
      · have hst : (Wal.heads hd).drop j = (j, hd) :: (Wal.heads hd).drop (j + 1) := by
          have : j = 0 ∨ j = 1 ∨ j = 2 := by omega
          rcases this with rfl | rfl | rfl <;> rfl
        have hwrite := fun W3 (hW : Chg [] wr W3) => write_any (idr.chg hW (by simp) (by simp)) (j : Int) (some ⟨W1.heap.size, 0, none⟩) 128 128 hd (fun W' hW' => by
          have hB : Bs W3 W3.heap.size (some ⟨W1.heap.size, 0, none⟩) hd.length hd := (Arr.keep B1 fun i _ => hW.cell (p := ⟨W1.heap.size, i, none⟩) (by show W1.heap.size < _; omega) (by simp)).bs (by have := hW.size; omega)
          rw [HHL.out] at hB
          exact bs_chgAt hB hW' (by simp; omega) (by have := hW.size; omega)) (by omega)
        have hfa := write_facts d2 (j : Int) hd
        have hun : Wal.wrAll d2 ((j, hd) :: (Wal.heads hd).drop (j + 1)) = if d2.writeErr (j : Int) hd = 0 then Wal.wrAll (d2.write (j : Int) hd) ((Wal.heads hd).drop (j + 1)) else (d2.write (j : Int) hd, d2.writeErr (j : Int) hd) := rfl
        have hxc := writeErr_cases d2 (j : Int) hd
        generalize d2.writeErr (j : Int) hd = x at *
        generalize d2.write (j : Int) hd = d3 at *
        have HST := Lib.hid hst
        have HUN := Lib.hid hun
        have HFA := Lib.hid hfa
        have hqr := ILR.out.qlt
        have hb0r := World.block_lt_of_cell? wr _ r0
        simp only at hb0r
        clear hst hun hfa B1 hdn2 hlen2 hKr rr ilr hfin hws HW1
        by_cases hx : x = 0
        · subst hx
          clear hxc
          go_wp2_with fail
          go_region_held3 (fun w' => w'.cell? ⟨w.heap.size, 0, none⟩ = some (.pointer (some ⟨q, 0, none⟩)) ∧ w'.cell? ⟨q, 0, none⟩ = some (.pointer (some ⟨p, 0, none⟩))) (go_keep) (first | (go_at_call 17; refine (hwrite _ ?_).mono ?_; (first | exact (Chg.refl [] wr).drew | exact (Chg.refl [] wr).drewN _); rintro e W5 ⟨rfl, id5, hc5⟩; have q05 := (hc5.cell (p := ⟨q, 0, none⟩) (by simpa using hqr) (by simp; omega)).trans (by simpa using r1); have q15 := (hc5.cell (p := ⟨w.heap.size, 0, none⟩) (by simpa using hb0r) (by simp; omega)).trans (by simpa using r0)))
          go_wp2_with fail
          go_roundw
          case rel => exact ⟨j + 1, d3, by omega, by go_num, Lib.hid (by rw [HW.out, HST.out, HUN.out]; exact if_pos (by trivial)), HFA.out.2.2 (by trivial), HFA.out.1.trans HLN.out, by have := HFA.out.2.1; omega, id5, (hcr.drewN 1).and hc5⟩
          case measure => simp [intOf]; omega
        · have hww : Wal.wrAll d' (Wal.heads hd) = (d3, x) := by rw [HW.out, HST.out, HUN.out, if_neg hx]
          have HWW := Lib.hid hww
          have hx2 := hxc.resolve_left hx
          clear hww hx hxc
          have hb2r := World.block_lt_of_cell? wr _ crr
          simp only at hb2r
          have hDr := (Array.getElem?_eq_some_iff.1 HKR.out).1
          rcases hx2 with rfl | rfl
          all_goals
            go_wp2_with fail
            go_region_held3 (fun w' => w'.cell? ⟨w.heap.size, 0, none⟩ = some (.pointer (some ⟨q, 0, none⟩)) ∧ w'.cell? ⟨q, 0, none⟩ = some (.pointer (some ⟨p, 0, none⟩))) (go_keep) (first | (go_at_call 17; refine (hwrite _ ?_).mono ?_; (first | exact (Chg.refl [] wr).drew | exact (Chg.refl [] wr).drewN _); rintro e W5 ⟨rfl, id5, hc5⟩; have q05 := (hc5.cell (p := ⟨q, 0, none⟩) (by simpa using hqr) (by simp; omega)).trans (by simpa using r1); have q15 := (hc5.cell (p := ⟨w.heap.size, 0, none⟩) (by simpa using hb0r) (by simp; omega)).trans (by simpa using r0); have cb5 := (hc5.cell (p := ⟨w.heap.size + 1 + 1, 0, none⟩) (by simpa using hb2r) (by simp; omega)).trans (by simpa using crr); have fb5 := (hc5.frozen (p := ⟨w.heap.size + 1 + 1, 0, none⟩) (by simpa using hb2r) (by simp; omega)).trans (by simpa using frr); have hk5 := (hc5.block w5.heap.size (by simpa using hDr) (by simp; omega)).trans HKR.out))
            go_wp2_with fail
            have hk6 := fun v => (((Chg.refl [w.heap.size + 1 + 1] W5).setCell (p := ⟨w.heap.size + 1 + 1, 0, none⟩) (.inl (by simp)) v).block w5.heap.size (Array.getElem?_eq_some_iff.1 hk5).1 (by simp; omega)).trans hk5
            refine ⟨by simp, .inl ⟨_, _, rfl, run_takeDeferred (hk6 _), ?_⟩⟩
            have hc6 := fun v => (Chg.refl [w.heap.size + 1 + 1] W5).setCell (p := ⟨w.heap.size + 1 + 1, 0, none⟩) (.inl (by simp)) v
            refine ⟨_, ?_, hR _ _ (HFIN.out _ d3 _ HWW.out (id5.chg (hc6 _) (by simp; omega) (by simp; omega)) ?_ ?_)⟩
            · have cx := fun v => setc_same W5 (w.heap.size + 1 + 1) 0 v _ cb5
              have cx2 := fun v => ((chg_putObj (W5.setCell ⟨w.heap.size + 1 + 1, 0, none⟩ v) w5.heap.size (.deferred none)).cell (p := ⟨w.heap.size + 1 + 1, 0, none⟩) (World.block_lt_of_cell? _ _ (cx v)) (by simp; omega)).trans (cx v)
              simp [results, Try.f42, go_sem, cx2]
            · rw [if_neg (by omega)]
              exact ((ILR.out.chg ((Chg.refl [] wr).drew) (by simp)).chg hc5 (by simp; omega)).chg (hc6 _) (by simp; omega)
            · exact (((Chg.refl _ wr).drew.and (hc5.mono fun s hs => by simp at hs; rcases hs with h | h <;> simp [h]))).and ((hc6 _).mono fun s hs => by simp at hs; simp [hs])
      · obtain rfl : j = 3 := by omega
        have hww : Wal.wrAll d' (Wal.heads hd) = (d2, 0) := by rw [HW.out]; rfl
        have HWW := Lib.hid hww
        have rs1 := rr.c2
        have l1 := ilr.c1
        have l2 := ilr.c2
        have lf := ilr.qf
        clear hww B1 hdn2 hlen2 hKr rr ilr hfin hws HW1 hlt
        go_wp2_with fail
        have hq2 : q ≠ w.heap.size + 1 + 1 := by omega
        have hb2q : w.heap.size + 1 + 1 ≠ q := by omega
        go_region
        go_wp2_with fail
        have il6 : IsLog ((wr.setCell ⟨q, 1, none⟩ (.int .i64 (side : Int))).setCell ⟨q, 2, none⟩ (.int .i64 (used : Int))) q p side used b := ILR.out.set12 side used
        have hc6 : Chg [q] wr ((wr.setCell ⟨q, 1, none⟩ (.int .i64 (side : Int))).setCell ⟨q, 2, none⟩ (.int .i64 (used : Int))) := ((Chg.refl [q] wr).setCell (p := ⟨q, 1, none⟩) (.inl (by simp)) _).setCell (p := ⟨q, 2, none⟩) (.inl (by simp)) _
        obtain ⟨W6, hW6⟩ : ∃ W6, ((wr.setCell ⟨q, 1, none⟩ (.int .i64 (side : Int))).setCell ⟨q, 2, none⟩ (.int .i64 (used : Int))) = W6 := ⟨_, rfl⟩
        rw [hW6] at il6 hc6
        rw [hW6]
        have cr6 := (hc6.cell (p := ⟨w.heap.size + 1 + 1, 0, none⟩) (World.block_lt_of_cell? wr _ crr) (by simp; omega)).trans crr
        have hk6 := (hc6.block _ (Array.getElem?_eq_some_iff.1 HKR.out).1 (by simp; omega)).trans HKR.out
        have hc7 : Chg [w.heap.size + 1 + 1] W6 ((W6.setCell ⟨w.heap.size + 1 + 1, 0, none⟩ (.int .i64 0)).drew) := ((Chg.refl [w.heap.size + 1 + 1] W6).setCell (p := ⟨w.heap.size + 1 + 1, 0, none⟩) (.inl (by simp)) (.int .i64 0)).drew
        have hk7 := (hc7.block _ (Array.getElem?_eq_some_iff.1 hk6).1 (by simp; omega)).trans hk6
        have cx : ((W6.setCell ⟨w.heap.size + 1 + 1, 0, none⟩ (.int .i64 0)).drew).cell? ⟨w.heap.size + 1 + 1, 0, none⟩ = some (.int .i64 0) := setc_same W6 (w.heap.size + 1 + 1) 0 (.int .i64 0) _ cr6
        have cx2 := ((chg_putObj ((W6.setCell ⟨w.heap.size + 1 + 1, 0, none⟩ (.int .i64 0)).drew) w5.heap.size (.deferred none)).cell (p := ⟨w.heap.size + 1 + 1, 0, none⟩) (World.block_lt_of_cell? _ _ cx) (by simp; omega)).trans cx
        refine ⟨by simp, .inl ⟨_, _, rfl, run_takeDeferred hk7, ?_⟩⟩
        refine ⟨.int .i64 0, by simp [results, Try.f42, go_sem, cx2], hR _ _ (HFIN.out _ d2 0 HWW.out ((idr.chg hc6 (by simp; omega) (by simp; omega)).chg hc7 (by simp; omega) (by simp; omega)) ?_ ?_)⟩
        · rw [if_pos rfl]
          exact il6.chg hc7 (by simp; omega)
        · exact (hc6.mono fun s hs => by simp at hs; simp [hs]).and (hc7.mono fun s hs => by simp at hs; simp [hs])
end
end Go.Proofs.Ytgaplcgenlphdaa
