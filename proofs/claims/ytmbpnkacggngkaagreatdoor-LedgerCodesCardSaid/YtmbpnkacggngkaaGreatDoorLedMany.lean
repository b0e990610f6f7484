/- THE WALKS of 'many', at its two types. -/
import Derived.Test.YtmbpnkacggngkaaGreatDoorLedTextR
namespace Go.Proofs.YtmbpnkacggngkaaGreatDoor
open Go.RowKit Mem Led

theorem own_set {w : World} {base : Nat} {e : TypeId} {size n : Nat} {v : Value} {xs : List Value} (h : w.ownsRow base e size v n xs) {p : Addr} (u : Value) (hp : v.ownBlock ≠ some p.block) : (w.setCell p u).ownsRow base e size v n xs := by
  refine ⟨h.1, ?_⟩
  rcases h.2 with h2 | ⟨g, cap, cur, rfl, hg, hh, r⟩
  · exact .inl h2
  · refine .inr ⟨g, cap, cur, rfl, hg, ?_, r⟩
    rw [heap_setCell_other w p g u (fun e => hp (by rw [← e]; rfl))]
    exact hh
/-- Behind a call that lays how many there are. -/
def WroteAt (B gc gp : Nat) (cs : List Value) (t : TypeId) (v : Value) (l : List UInt8) (w w' : World) : Prop :=
  ∃ v', Wr w' B gc v' l ∧ Blk w' gp cs t ∧ Chg (gc :: gp :: v.ownBlock.toList) w w' ∧ (∀ b, v'.ownBlock = some b → v.ownBlock = some b ∨ w.heap.size ≤ b)
def ReadMany (e : TypeId) (size B gc gp kp : Nat) (cs : List Value) (t : TypeId) (s : St) (w w' : World) : Prop :=
  Rd w' B gc (rnum 1 s).2 ∧ Chg [gc, gp] w w' ∧ ∃ g m, m = (rnum 1 s).1.toNat ∧ m < 256 ∧ w.heap.size ≤ g ∧ Blk w' g (List.replicate (m * size) (.string (str []))) e ∧ Blk w' gp (cs.set kp (.slice (some ⟨g, 0, none⟩) m m)) t
theorem set_same {cs : List Value} {k : Nat} {v : Value} (h : cs[k]? = some v) : cs.set k v = cs := by
  apply List.ext_getElem?
  intro j
  rw [List.getElem?_set]
  split
  · rename_i hj
    subst hj
    rw [if_pos (List.getElem?_eq_some_iff.1 h).1]
    exact h.symm
  · rfl
theorem infoS : (Tryz.prog.info? 9).map (fun i => (i.zero, i.size, i.bytes)) = some (some (.string ⟨#[]⟩), 1, 16) := by kernel_rfl
theorem makeS (w : World) (n : Nat) (h : n ≤ 256) : (Instr.makeSlice 25 (.int .i64 (n : Int)) (.int .i64 (n : Int))).run Tryz.prog w = .ok (.slice (some ⟨w.heap.size, 0, none⟩) n n) (w.alloc (.cells (List.replicate (n * 1) (.string (str []))).toArray 9)) := by
  obtain ⟨i0, hi, hz0, hz1, hz2⟩ := info_parts infoS
  have hr := run_make (P := Tryz.prog) w 25 9 i0 _ Tryz.underlying25 hi hz0 .i64 .i64 (n : Int) (n : Int) (by omega) (by omega) (by rw [hz2]; omega) (by omega)
  rw [hz1] at hr
  have e : madeCells (.string ⟨#[]⟩ : Value).cells (n * 1) = (List.replicate (n * 1) (.string (str []))).toArray := by
    apply Array.ext
    · simp [size_madeCells]
    · intro j h1 h2
      unfold madeCells
      simp only [List.getElem_toArray, List.getElem_replicate]
      simp [Value.cells, Nat.mod_one, str]
  rw [← e]
  exact hr

set_option maxRecDepth 100000 in
set_option maxHeartbeats 4000000 in
theorem manySr_any (gp kp : Nat) {w : World} {B gc : Nat} {s : St} {cs : List Value} {t : TypeId} (h : Rd w B gc s) (hb : Blk w gp cs t) (hkp : cs[kp]? = some (.slice none 0 0))
    (hg : gp ≠ gc) (hB : B ≤ gp) (hl : s.1.length ≤ 140737488355328) :
    Calls Tryz.prog 68 #[.pointer (some ⟨gc, 0, none⟩), .pointer (some ⟨gp, kp, none⟩)] w fun e w' => e = .returned (.tuple #[]) ∧ ReadMany 9 1 B gc gp kp cs t s w w' := by
  have hgc := h.glt
  have hgp := hb.lt
  have hBc := h.lt
  have hkl : kp < cs.length := (List.getElem?_eq_some_iff.1 hkp).1
  have hp : w.cell? ⟨gp, kp, none⟩ = some (.slice none 0 0) := (hb.cell kp).trans hkp
  have hw1 : Rd (w.alloc (.cells #[.int .i64 0] 3)) B gc s := h.chg (S := []) ((Chg.refl _ _).alloc _) (by simp) (by simp)
  have hnum := numr_lit 1 1 rfl (by omega) w.heap.size 0 hw1 (Blk.new w [.int .i64 0] 3) (by simp) (by omega) (by omega) hl
  have hr1 := rnum_small (k := 1) s (by omega)
  unfold ReadMany
  unfold ReadNum at hnum
  generalize rnum 1 s = q at *
  obtain ⟨n, r⟩ := q
  simp only [] at *
  obtain ⟨m, rfl⟩ : ∃ m : Nat, n = m := ⟨n.toNat, by omega⟩
  have hm : m < 256 := by omega
  go_enter Tryz.func68, Tryz.ntmps68
  go_wp2_with fail
  refine hnum.mono ?_
  rintro e w2 ⟨rfl, hR, hbn, hc⟩
  have hz2 := hc.size
  have hcg : Chg [gc, gp] w w2 := (Chg.of_below ((Below.refl _ _).alloc (Nat.le_refl _) (.cells #[.int .i64 0] 3))).trans (hc.mono (S' := [gc, w.heap.size]) (by simp)) (by
    intro s hs
    simp at hs
    rcases hs with rfl | rfl
    · exact .inl (by simp)
    · exact .inr (Nat.le_refl _))
  have hb2 : Blk w2 gp cs t := (hb.alloc (.cells #[.int .i64 0] 3)).chg hc (by simp [hg]; omega)
  have dn : w2.cell? ⟨w.heap.size, 0, none⟩ = some (.int .i64 (m : Int)) := hbn.cell 0
  have d1 : w2.cell? ⟨gc, 1, none⟩ = some (.bool true) := by
    obtain ⟨A, n, c, h1, h2, h3⟩ := hR.ex
    exact h1.cell 1
  have hp2 : w2.cell? ⟨gp, kp, none⟩ = some (.slice none 0 0) := (hb2.cell kp).trans hkp
  have pf : w2.frozen? ⟨gp, kp, none⟩ = false := hb2.froz kp
  have pg : gp < w2.heap.size := hb2.lt
  have hmk := makeS w2 m (by omega)
  have hsc : ∀ u, Chg [gp] w2 (w2.setCell ⟨gp, kp, none⟩ u) := fun u => (Chg.refl _ _).setCell (.inl (by simp)) _
  have hbl : ∀ u, Blk ((w2.setCell ⟨gp, kp, none⟩ u).alloc (.cells (List.replicate (m * 1) (.string (str []))).toArray 9)) w2.heap.size (List.replicate (m * 1) (.string (str []))) 9 := fun u => by
    have := Blk.new (w2.setCell ⟨gp, kp, none⟩ u) (List.replicate (m * 1) (.string (str []))) 9
    rw [show (w2.setCell ⟨gp, kp, none⟩ u).heap.size = w2.heap.size by simp [World.setCell]] at this
    exact this
  generalize (List.replicate (m * 1) (Value.string (str []))).toArray = Z at *
  go_wp2
  go_end0
  have hzz : w.heap.size ≤ w2.heap.size := hcg.size
  exact ⟨rfl, (hR.chg (hsc _) (by simpa using Ne.symm hg) (by simpa using hB)).chg (S := []) ((Chg.refl _ _).alloc _) (by simp) (by simp), (hcg.setCell (.inl (by simp)) _).alloc _, w2.heap.size, m, by simp, hm, hzz, hbl _, (hb2.set kp _).alloc _⟩

set_option maxRecDepth 100000 in
set_option maxHeartbeats 4000000 in
theorem manySw_any (gp kp : Nat) (A : Option Addr) (n c : Nat) {w : World} {B gc : Nat} {v : Value} {l : List UInt8} {cs : List Value} {t : TypeId} (h : Wr w B gc v l) (hb : Blk w gp cs t) (hkp : cs[kp]? = some (.slice A n c)) (hn : n < 256) (hnc : n ≤ c)
    (hg : gp ≠ gc) (hv : v.ownBlock ≠ some gp) (hl : l.length + 65600 ≤ 140737488355328) :
    Calls Tryz.prog 68 #[.pointer (some ⟨gc, 0, none⟩), .pointer (some ⟨gp, kp, none⟩)] w fun e w' => e = .returned (.tuple #[]) ∧ WroteAt B gc gp cs t v (l ++ le 1 (n : Int)) w w' := by
  have hgc := h.blk.lt
  have hgp := hb.lt
  have hp : w.cell? ⟨gp, kp, none⟩ = some (.slice A n c) := (hb.cell kp).trans hkp
  have hand := and_many n (by omega)
  rw [Nat.mod_eq_of_lt hn] at hand
  have hw1 := h.alloc (.cells #[.int .i64 (n : Int)] 3)
  have hnum := numw_lit 1 1 rfl (by omega) w.heap.size 0 (n : Int) hw1 (by simp) (by omega) h.ne (by omega)
  go_enter Tryz.func68, Tryz.ntmps68
  go_wp2_with fail
  refine hnum.mono ?_
  rintro e w2 ⟨rfl, v2, hW2, hc2, hv2⟩
  have hz2 := hc2.size
  have hb2 : Blk w2 gp cs t := (hb.alloc (.cells #[.int .i64 (n : Int)] 3)).chg hc2 (by simp [hg]; exact fun e => hv e)
  have hcn : w2.cell? ⟨w.heap.size, 0, none⟩ = some (.int .i64 (n : Int)) := (hc2.cell (p := ⟨w.heap.size, 0, none⟩) (by simp) (by
    have := h.ne
    simp
    exact ⟨by omega, fun e => this e⟩)).trans (by simp)
  have hp2 : w2.cell? ⟨gp, kp, none⟩ = some (.slice A n c) := (hb2.cell kp).trans hkp
  have pf : w2.frozen? ⟨gp, kp, none⟩ = false := hb2.froz kp
  have c1 : w2.cell? ⟨gc, 1, none⟩ = some (.bool false) := hW2.blk.cell 1
  have hwx : Chg (gc :: v.ownBlock.toList) w w2 := (Chg.of_below ((Below.refl _ _).alloc (Nat.le_refl _) _)).and hc2
  have hvg : v2.ownBlock ≠ some gp := fun e => by
    rcases hv2 gp e with h | h
    · exact hv h
    · simp at h
      omega
  have hres : WroteAt B gc gp cs t v (l ++ le 1 (n : Int)) w (w2.drew.setCell ⟨gp, kp, none⟩ (.slice A n c)) := by
    refine ⟨v2, ⟨own_set hW2.own.drew _ hvg, hW2.blk.drew.set_ne (by simpa using Ne.symm hg) _, hW2.lt, by simpa [World.setCell] using hW2.hB⟩, ?_, ((hwx.mono (S' := gc :: gp :: v.ownBlock.toList) (by intro s hs; simp at hs ⊢; rcases hs with h | h <;> simp [h])).drew).setCell (.inl (by simp)) _, fun b hb => (hv2 b hb).imp id (fun h => by simp at h; omega)⟩
    have := hb2.drew.set kp (.slice A n c)
    rw [set_same hkp] at this
    exact this
  have HR := Lib.hid hres
  clear hres hnum hW2 hb2
  go_wp2_with fail
  go_region
  all_goals
    go_wp2
    go_end0
    exact ⟨rfl, HR.out⟩
theorem infoK : (Tryz.prog.info? 54).map (fun i => (i.zero, i.size, i.bytes)) = some (some (.agg #[.string ⟨#[]⟩, .string ⟨#[]⟩]), 2, 32) := by kernel_rfl
theorem makeK (w : World) (n : Nat) (h : n ≤ 256) : (Instr.makeSlice 43 (.int .i64 (n : Int)) (.int .i64 (n : Int))).run Tryz.prog w = .ok (.slice (some ⟨w.heap.size, 0, none⟩) n n) (w.alloc (.cells (List.replicate (n * 2) (.string (str []))).toArray 54)) := by
  obtain ⟨i0, hi, hz0, hz1, hz2⟩ := info_parts infoK
  have hr := run_make (P := Tryz.prog) w 43 54 i0 _ Tryz.underlying43 hi hz0 .i64 .i64 (n : Int) (n : Int) (by omega) (by omega) (by rw [hz2]; omega) (by omega)
  rw [hz1] at hr
  have e : madeCells (.agg #[.string ⟨#[]⟩, .string ⟨#[]⟩] : Value).cells (n * 2) = (List.replicate (n * 2) (.string (str []))).toArray := by
    apply Array.ext
    · simp [size_madeCells]
    · intro j h1 h2
      unfold madeCells
      simp only [List.getElem_toArray, List.getElem_replicate]
      rcases Nat.mod_two_eq_zero_or_one j with h | h <;> simp [Value.cells, h, str]
  rw [← e]
  exact hr

set_option maxRecDepth 100000 in
set_option maxHeartbeats 4000000 in
theorem manyKr_any (gp kp : Nat) {w : World} {B gc : Nat} {s : St} {cs : List Value} {t : TypeId} (h : Rd w B gc s) (hb : Blk w gp cs t) (hkp : cs[kp]? = some (.slice none 0 0))
    (hg : gp ≠ gc) (hB : B ≤ gp) (hl : s.1.length ≤ 140737488355328) :
    Calls Tryz.prog 70 #[.pointer (some ⟨gc, 0, none⟩), .pointer (some ⟨gp, kp, none⟩)] w fun e w' => e = .returned (.tuple #[]) ∧ ReadMany 54 2 B gc gp kp cs t s w w' := by
  have hgc := h.glt
  have hgp := hb.lt
  have hBc := h.lt
  have hkl : kp < cs.length := (List.getElem?_eq_some_iff.1 hkp).1
  have hp : w.cell? ⟨gp, kp, none⟩ = some (.slice none 0 0) := (hb.cell kp).trans hkp
  have hw1 : Rd (w.alloc (.cells #[.int .i64 0] 3)) B gc s := h.chg (S := []) ((Chg.refl _ _).alloc _) (by simp) (by simp)
  have hnum := numr_lit 1 1 rfl (by omega) w.heap.size 0 hw1 (Blk.new w [.int .i64 0] 3) (by simp) (by omega) (by omega) hl
  have hr1 := rnum_small (k := 1) s (by omega)
  unfold ReadMany
  unfold ReadNum at hnum
  generalize rnum 1 s = q at *
  obtain ⟨n, r⟩ := q
  simp only [] at *
  obtain ⟨m, rfl⟩ : ∃ m : Nat, n = m := ⟨n.toNat, by omega⟩
  have hm : m < 256 := by omega
  go_enter Tryz.func70, Tryz.ntmps70
  go_wp2_with fail
  refine hnum.mono ?_
  rintro e w2 ⟨rfl, hR, hbn, hc⟩
  have hz2 := hc.size
  have hcg : Chg [gc, gp] w w2 := (Chg.of_below ((Below.refl _ _).alloc (Nat.le_refl _) (.cells #[.int .i64 0] 3))).trans (hc.mono (S' := [gc, w.heap.size]) (by simp)) (by
    intro s hs
    simp at hs
    rcases hs with rfl | rfl
    · exact .inl (by simp)
    · exact .inr (Nat.le_refl _))
  have hb2 : Blk w2 gp cs t := (hb.alloc (.cells #[.int .i64 0] 3)).chg hc (by simp [hg]; omega)
  have dn : w2.cell? ⟨w.heap.size, 0, none⟩ = some (.int .i64 (m : Int)) := hbn.cell 0
  have d1 : w2.cell? ⟨gc, 1, none⟩ = some (.bool true) := by
    obtain ⟨A, n, c, h1, h2, h3⟩ := hR.ex
    exact h1.cell 1
  have hp2 : w2.cell? ⟨gp, kp, none⟩ = some (.slice none 0 0) := (hb2.cell kp).trans hkp
  have pf : w2.frozen? ⟨gp, kp, none⟩ = false := hb2.froz kp
  have pg : gp < w2.heap.size := hb2.lt
  have hmk := makeK w2 m (by omega)
  have hsc : ∀ u, Chg [gp] w2 (w2.setCell ⟨gp, kp, none⟩ u) := fun u => (Chg.refl _ _).setCell (.inl (by simp)) _
  have hbl : ∀ u, Blk ((w2.setCell ⟨gp, kp, none⟩ u).alloc (.cells (List.replicate (m * 2) (.string (str []))).toArray 54)) w2.heap.size (List.replicate (m * 2) (.string (str []))) 54 := fun u => by
    have := Blk.new (w2.setCell ⟨gp, kp, none⟩ u) (List.replicate (m * 2) (.string (str []))) 54
    rw [show (w2.setCell ⟨gp, kp, none⟩ u).heap.size = w2.heap.size by simp [World.setCell]] at this
    exact this
  generalize (List.replicate (m * 2) (Value.string (str []))).toArray = Z at *
  go_wp2
  go_end0
  have hzz : w.heap.size ≤ w2.heap.size := hcg.size
  exact ⟨rfl, (hR.chg (hsc _) (by simpa using Ne.symm hg) (by simpa using hB)).chg (S := []) ((Chg.refl _ _).alloc _) (by simp) (by simp), (hcg.setCell (.inl (by simp)) _).alloc _, w2.heap.size, m, by simp, hm, hzz, hbl _, (hb2.set kp _).alloc _⟩

set_option maxRecDepth 100000 in
set_option maxHeartbeats 4000000 in
theorem manyKw_any (gp kp : Nat) (A : Option Addr) (n c : Nat) {w : World} {B gc : Nat} {v : Value} {l : List UInt8} {cs : List Value} {t : TypeId} (h : Wr w B gc v l) (hb : Blk w gp cs t) (hkp : cs[kp]? = some (.slice A n c)) (hn : n < 256) (hnc : n ≤ c)
    (hg : gp ≠ gc) (hv : v.ownBlock ≠ some gp) (hl : l.length + 65600 ≤ 140737488355328) :
    Calls Tryz.prog 70 #[.pointer (some ⟨gc, 0, none⟩), .pointer (some ⟨gp, kp, none⟩)] w fun e w' => e = .returned (.tuple #[]) ∧ WroteAt B gc gp cs t v (l ++ le 1 (n : Int)) w w' := by
  have hgc := h.blk.lt
  have hgp := hb.lt
  have hp : w.cell? ⟨gp, kp, none⟩ = some (.slice A n c) := (hb.cell kp).trans hkp
  have hand := and_many n (by omega)
  rw [Nat.mod_eq_of_lt hn] at hand
  have hw1 := h.alloc (.cells #[.int .i64 (n : Int)] 3)
  have hnum := numw_lit 1 1 rfl (by omega) w.heap.size 0 (n : Int) hw1 (by simp) (by omega) h.ne (by omega)
  go_enter Tryz.func70, Tryz.ntmps70
  go_wp2_with fail
  refine hnum.mono ?_
  rintro e w2 ⟨rfl, v2, hW2, hc2, hv2⟩
  have hz2 := hc2.size
  have hb2 : Blk w2 gp cs t := (hb.alloc (.cells #[.int .i64 (n : Int)] 3)).chg hc2 (by simp [hg]; exact fun e => hv e)
  have hcn : w2.cell? ⟨w.heap.size, 0, none⟩ = some (.int .i64 (n : Int)) := (hc2.cell (p := ⟨w.heap.size, 0, none⟩) (by simp) (by
    have := h.ne
    simp
    exact ⟨by omega, fun e => this e⟩)).trans (by simp)
  have hp2 : w2.cell? ⟨gp, kp, none⟩ = some (.slice A n c) := (hb2.cell kp).trans hkp
  have pf : w2.frozen? ⟨gp, kp, none⟩ = false := hb2.froz kp
  have c1 : w2.cell? ⟨gc, 1, none⟩ = some (.bool false) := hW2.blk.cell 1
  have hwx : Chg (gc :: v.ownBlock.toList) w w2 := (Chg.of_below ((Below.refl _ _).alloc (Nat.le_refl _) _)).and hc2
  have hvg : v2.ownBlock ≠ some gp := fun e => by
    rcases hv2 gp e with h | h
    · exact hv h
    · simp at h
      omega
  have hres : WroteAt B gc gp cs t v (l ++ le 1 (n : Int)) w (w2.drew.setCell ⟨gp, kp, none⟩ (.slice A n c)) := by
    refine ⟨v2, ⟨own_set hW2.own.drew _ hvg, hW2.blk.drew.set_ne (by simpa using Ne.symm hg) _, hW2.lt, by simpa [World.setCell] using hW2.hB⟩, ?_, ((hwx.mono (S' := gc :: gp :: v.ownBlock.toList) (by intro s hs; simp at hs ⊢; rcases hs with h | h <;> simp [h])).drew).setCell (.inl (by simp)) _, fun b hb => (hv2 b hb).imp id (fun h => by simp at h; omega)⟩
    have := hb2.drew.set kp (.slice A n c)
    rw [set_same hkp] at this
    exact this
  have HR := Lib.hid hres
  clear hres hnum hW2 hb2
  go_wp2_with fail
  go_region
  all_goals
    go_wp2
    go_end0
    exact ⟨rfl, HR.out⟩
end Go.Proofs.YtmbpnkacggngkaaGreatDoor
