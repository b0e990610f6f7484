/- THE WALKS of put, Append, Replace. -/
import Derived.Test.YtgaplcgenlphdaaWalWrite
namespace Go.Proofs.Ytgaplcgenlphdaa
open Go.RowKit Mem

theorem IsLog.set3 {w : World} {q p s u : Nat} {b : Bool} (h : IsLog w q p s u b) (b' : Bool) : IsLog (w.setCell ⟨q, 3, none⟩ (.bool b')) q p s u b' :=
  ⟨(setc_ne _ q 3 0 _ (by omega)).trans h.c0, (setc_ne _ q 3 1 _ (by omega)).trans h.c1, (setc_ne _ q 3 2 _ (by omega)).trans h.c2, setc_same _ q 3 _ _ h.c3, fun o => by simp [h.qf], by simpa [World.setCell] using h.qlt⟩

/-- What put leaves. -/
def PutAny (w : World) (q p g : Nat) (r : DS × Wal.LS × Int) (e : Ending) (w' : World) : Prop :=
  e = .returned (.int .i64 r.2.2) ∧ IsDisk w' p g r.1 ∧ IsLog w' q p r.2.1.side r.2.1.used r.2.1.dead ∧ Chg [p, g, q] w w'

theorem sizes_take (rs : Wal.Secs) (k : Nat) (h : k < rs.length) : Wal.sizes (rs.take (k + 1)) = Wal.sizes (rs.take k) + Wal.size rs[k].length := by
  unfold Wal.sizes
  rw [List.take_succ_eq_append_getElem h, List.map_append, List.sum_append]
  simp only [List.map_cons, List.map_nil, List.sum_cons, List.sum_nil, Nat.add_zero]
theorem sizes_le8 (rs : Wal.Secs) (h : ∀ r ∈ rs, r.length ≤ 1000) : Wal.sizes rs ≤ rs.length * 8 := by
  induction rs with
  | nil => simp [Wal.sizes]
  | cons r rs ih =>
    have h1 := ih fun x hx => h x (by simp [hx])
    have h2 := Wal.size_le (h r (by simp))
    unfold Wal.sizes at *
    simp only [List.map_cons, List.sum_cons, List.length_cons]
    omega

section
variable {w : World} {q p g s u : Nat} {b : Bool} {d : DS}
theorem wwrite_any (hl : IsLog w q p s u b) (h : IsDisk w p g d) (hqp : q ≠ p) (hqg : q ≠ g) (h7 : 7 ≤ d.secs.length) (hdn : d.down = false) (A : Option Addr) (n c : Nat) (rs : Wal.Secs) (hrx : RsX w [p, g, q] A n rs) (hlen : ∀ r ∈ rs, r.length ≤ 1000) (hn : n ≤ 1000000)
    (side at_ used : Nat) (hs1 : side ≤ 1) (hfit : at_ + Wal.sizes rs ≤ Wal.half d.secs.length) (hwr : d.writes < 900000) (hu : used = at_ + Wal.sizes rs) :
    Calls Try.prog 42 #[.pointer (some ⟨q, 0, none⟩), .slice A n c, .int .i64 (side : Int), .int .i64 (at_ : Int), .int .i64 (used : Int)] w (Wrote w q p g s u b side used (Wal.wrAll d (Wal.writes d.secs.length side at_ rs))) :=
  write_log hl h hqp hqg h7 hdn A n c rs hrx hlen hn side at_ used hs1 hfit hwr hu _ fun _ _ h => h

set_option maxRecDepth 100000 in
set_option maxHeartbeats 4000000 in
theorem put_dead (hl : IsLog w q p s u b) (h : IsDisk w p g d) (A : Option Addr) (n c side at_ : Nat) (hdead : b = true ∨ d.down = true) :
    Calls Try.prog 31 #[.pointer (some ⟨q, 0, none⟩), .slice A n c, .int .i64 (side : Int), .int .i64 (at_ : Int)] w fun e w' => e = .returned (.int .i64 26) ∧ w' = w.setCell ⟨q, 3, none⟩ (.bool true) := by
  have c0 := hl.c0
  have c3 := hl.c3
  have qf := hl.qf
  have hal := alive_any h
  cases b with
  | true =>
    clear hdead
    go_enter Try.func31, Try.ntmps31
    go_wp2
    go_ret
    exact ⟨rfl, rfl⟩
  | false =>
    have hdn : d.down = true := by simpa using hdead
    rw [hdn] at hal
    clear hdead
    go_enter Try.func31, Try.ntmps31
    go_wp2_with fail
    refine hal.mono ?_
    rintro e w' ⟨rfl, rfl⟩
    go_wp2
    go_ret
    exact ⟨rfl, rfl⟩

set_option maxRecDepth 100000 in
set_option maxHeartbeats 8000000 in
theorem put_alive (hl : IsLog w q p s u false) (h : IsDisk w p g d) (hqp : q ≠ p) (hqg : q ≠ g) (h7 : 7 ≤ d.secs.length) (hdn : d.down = false) (A : Option Addr) (n c : Nat) (rs : Wal.Secs) (hrx : RsX w [p, g, q] A n rs) (hn : n ≤ 100000)
    (side at_ : Nat) (hs1 : side ≤ 1) (hat : at_ ≤ 126) (hwr : d.writes < 900000) :
    Calls Try.prog 31 #[.pointer (some ⟨q, 0, none⟩), .slice A n c, .int .i64 (side : Int), .int .i64 (at_ : Int)] w (PutAny w q p g (Wal.putD d ⟨s, u, false⟩ rs side at_)) := by
  have c0 := hl.c0
  have c3 := hl.c3
  have qf := hl.qf
  have hal := alive_any h
  rw [hdn] at hal
  obtain ⟨w1, hw1⟩ : ∃ w1, w.setCell ⟨q, 3, none⟩ (.bool false) = w1 := ⟨_, rfl⟩
  have hc1 : Chg [q] w w1 := by rw [← hw1]; exact (Chg.refl [q] w).setCell (p := ⟨q, 3, none⟩) (.inl (by simp)) _
  have il1 : IsLog w1 q p s u false := by rw [← hw1]; exact hl.set3 false
  have id1 := h.chg hc1 (by simp; omega) (by simp; omega)
  have hrx1 : RsX w1 [p, g, q] A n rs := hrx.chg (hc1.mono (by simp))
  have hcq : Chg [p, g, q] w w1 := hc1.mono (by simp)
  have hput : Wal.putD d ⟨s, u, false⟩ rs side at_ = if Wal.tooLong rs then (d, ⟨s, u, false⟩, 4) else if Wal.half d.secs.length < at_ + Wal.sizes rs then (d, ⟨s, u, false⟩, 6) else Wal.putW d ⟨s, u, false⟩ rs side at_ := by
    unfold Wal.putD
    rw [if_neg (by simp [hdn])]
  have hrl := hrx.len
  have HPUT := Lib.hid hput
  have HRL := Lib.hid hrl
  have c31 := il1.c3
  have hhalf := half_any il1 id1 h7
  have hh := half_bound h
  generalize hhf : Wal.half d.secs.length = hf at *
  have HHF := Lib.hid hhf
  clear hput hrl hhf
  go_enter Try.func31, Try.ntmps31
  go_wp2_with fail
  refine hal.mono ?_
  rintro e w' ⟨rfl, rfl⟩
  go_wp2_with fail
  go_loopw [9, 11, 35] (fun vu _ i wr => ∃ k us : Nat, k ≤ n ∧ us ≤ 1000000 ∧ i = .int .i64 k ∧ vu = .int .i64 us ∧ Hid (us = at_ + Wal.sizes (rs.take k) ∧ ∀ r ∈ rs.take k, r.length ≤ 1000) ∧ w1 = wr) (fun _ _ i _ => n - (intOf i).toNat)
  case atStart => exact ⟨0, at_, by omega, by omega, rfl, rfl, Lib.hid ⟨rfl, by simp⟩, rfl⟩
  case round =>
    obtain ⟨k, us, hk, hus, rfl, rfl, HU, rfl⟩ := hrel
    by_cases hlt : k < n
    · have hkL : k < rs.length := by rw [HRL.out]; exact hlt
      obtain ⟨ad, A', n', c', rfl, b1, b2, b3, b4, b5, b6, b7⟩ := hrx1.rd k hkL
      have hsp : ad.spot = none := by
        obtain ⟨ad0, _, _, _, e0, _, _, c0, _⟩ := hrx1.rd 0 (by omega)
        injection e0 with e0
        subst e0
        have := World.cell?_spot c0
        simpa [Addr.add] using this
      obtain ⟨blk, off, sp⟩ := ad
      simp only at hsp
      subst hsp
      have hcell : w1.cell? ⟨blk, off + k, none⟩ = some (.slice A' n' c') := by
        rw [← b3]
        congr 1
        unfold Addr.add
        split <;> simp_all
      have hl6 := b6.len
      have hmem := List.getElem_mem hkL
      have hst := sizes_take rs k hkL
      have htk : rs.take (k + 1) = rs.take k ++ [rs[k]] := List.take_succ_eq_append_getElem hkL
      generalize rs[k] = r at *
      by_cases hlong : 1000 < n'
      · have htl : Wal.tooLong rs = true := by
          unfold Wal.tooLong
          rw [List.any_eq_true]
          exact ⟨r, hmem, decide_eq_true (by omega)⟩
        have hres : Wal.putD d ⟨s, u, false⟩ rs side at_ = (d, ⟨s, u, false⟩, 4) := by rw [HPUT.out, if_pos htl]
        have HRES := Lib.hid hres
        clear hres htl HPUT hst htk b3 b6 hl6 hmem
        go_wp2
        go_ret
        exact ⟨by rw [HRES.out]; rfl, by rw [HRES.out]; exact id1, by rw [HRES.out]; exact il1, hcq⟩
      · have hall : ∀ x ∈ rs.take (k + 1), x.length ≤ 1000 := by
          rw [htk]
          intro x hx
          rcases List.mem_append.1 hx with hx | hx
          · exact HU.out.2 x hx
          · simp at hx
            subst hx
            omega
        have h8 := sizes_le8 _ hall
        have hlk : (rs.take (k + 1)).length ≤ n := by rw [List.length_take, HRL.out]; omega
        have HU2 : Hid (us + Wal.size n' = at_ + Wal.sizes (rs.take (k + 1)) ∧ ∀ r ∈ rs.take (k + 1), r.length ≤ 1000) := Lib.hid ⟨by rw [hst, HU.out.1, hl6]; omega, hall⟩
        have hsz := size_any n' w1 (by omega)
        have hub : us + Wal.size n' ≤ 1000000 := by rw [HU2.out.1]; omega
        generalize Wal.size n' = sz at *
        clear hall h8 hlk hst htk b3 b6 hl6 hmem
        go_wp2_with fail
        refine hsz.mono ?_
        rintro e w' ⟨rfl, rfl⟩
        go_wp2_with fail
        go_roundw
        case rel => exact ⟨k + 1, us + sz, by omega, hub, by go_num, by go_num, HU2, trivial⟩
        case measure => simp [intOf]; omega
    · obtain rfl : k = n := by omega
      have hU := HU.out
      rw [List.take_of_length_le (by rw [HRL.out]; exact Nat.le_refl _)] at hU
      have htl : Wal.tooLong rs = false := by
        unfold Wal.tooLong
        rw [List.any_eq_false]
        intro x hx
        have := hU.2 x hx
        simp
        omega
      have hput := HPUT.out
      rw [htl, ← hU.1] at hput
      simp only [Bool.false_eq_true, if_false] at hput
      by_cases hfull : hf < us
      · rw [if_pos hfull] at hput
        have HRES := Lib.hid hput
        clear hput hU htl HPUT HU hlt
        go_wp2_with fail
        refine hhalf.mono ?_
        rintro e w' ⟨rfl, rfl⟩
        go_wp2
        go_ret
        exact ⟨by rw [HRES.out]; rfl, by rw [HRES.out]; exact id1, by rw [HRES.out]; exact il1, hcq⟩
      · rw [if_neg hfull] at hput
        have hwr1 := wwrite_any il1 id1 hqp hqg h7 hdn A k c rs hrx1 hU.2 (by omega) side at_ us hs1 (by rw [HHF.out]; omega) hwr hU.1
        have hputw : Wal.putW d ⟨s, u, false⟩ rs side at_ = if (Wal.wrAll d (Wal.writes d.secs.length side at_ rs)).2 = 0 then ((Wal.wrAll d (Wal.writes d.secs.length side at_ rs)).1, ⟨side, us, false⟩, 0)
            else ((Wal.wrAll d (Wal.writes d.secs.length side at_ rs)).1, ⟨s, u, true⟩, (Wal.wrAll d (Wal.writes d.secs.length side at_ rs)).2) := by unfold Wal.putW; rw [← hU.1]
        rw [hputw] at hput
        have hxc := wrAll_err (Wal.writes d.secs.length side at_ rs) d
        generalize Wal.wrAll d (Wal.writes d.secs.length side at_ rs) = r at *
        obtain ⟨d1, x⟩ := r
        simp only at hput hxc
        have HRES := Lib.hid hput
        have hfl : ¬ ((hf : Int) < (us : Int)) := by omega
        clear hput hputw hU htl HPUT HU hlt
        rcases hxc with rfl | rfl | rfl
        all_goals
          go_wp2_with fail
          refine hhalf.mono ?_
          rintro e w' ⟨rfl, rfl⟩
          go_wp2_with fail
          refine hwr1.mono ?_
          rintro e w2 ⟨rfl, id2, il2, hc2⟩
          have il2' : ∃ s2 u2, IsLog w2 q p s2 u2 false ∧ ∀ b', (Wal.putD d ⟨s, u, false⟩ rs side at_).2.1 = ⟨s2, u2, b'⟩ ∨ True := by
            first
            | exact ⟨_, _, (by simpa using il2), fun _ => .inr trivial⟩
          simp only at id2
          have k0 : w2.cell? ⟨q, 3, none⟩ = some (.bool false) := by
            obtain ⟨_, _, hi, _⟩ := il2'
            exact hi.c3
          have kf : ∀ o, w2.frozen? ⟨q, o, none⟩ = false := by
            obtain ⟨_, _, hi, _⟩ := il2'
            exact hi.qf
          have HIL := Lib.hid il2
          clear il2 il2' hwr1 hhalf
          go_wp2_with fail
          go_ret
          have hc3 : ∀ v, Chg [q] w2 (w2.setCell ⟨q, 3, none⟩ v) := fun v => (Chg.refl [q] w2).setCell (p := ⟨q, 3, none⟩) (.inl (by simp)) v
          refine ⟨by rw [HRES.out]; rfl, by rw [HRES.out]; exact id2.chg (hc3 _) (by simp; omega) (by simp; omega), ?_, (hcq.and hc2).and ((hc3 _).mono (by simp))⟩
          rw [HRES.out]
          exact IsLog.set3 (by simpa using HIL.out) _

theorem put_any (hl : IsLog w q p s u b) (h : IsDisk w p g d) (hqp : q ≠ p) (hqg : q ≠ g) (h7 : 7 ≤ d.secs.length) (A : Option Addr) (n c : Nat) (rs : Wal.Secs) (hrx : RsX w [p, g, q] A n rs) (hn : n ≤ 100000)
    (side at_ : Nat) (hs1 : side ≤ 1) (hat : at_ ≤ 126) (hwr : d.writes < 900000) :
    Calls Try.prog 31 #[.pointer (some ⟨q, 0, none⟩), .slice A n c, .int .i64 (side : Int), .int .i64 (at_ : Int)] w (PutAny w q p g (Wal.putD d ⟨s, u, b⟩ rs side at_)) := by
  by_cases hdead : b = true ∨ d.down = true
  · have e : Wal.putD d ⟨s, u, b⟩ rs side at_ = (d, ⟨s, u, true⟩, 26) := by
      unfold Wal.putD
      rw [if_pos hdead]
    rw [e]
    refine (put_dead hl h A n c side at_ hdead).mono ?_
    rintro e w' ⟨rfl, rfl⟩
    have hc1 : Chg [q] w (w.setCell ⟨q, 3, none⟩ (.bool true)) := (Chg.refl [q] w).setCell (p := ⟨q, 3, none⟩) (.inl (by simp)) _
    exact ⟨rfl, h.chg hc1 (by simp; omega) (by simp; omega), hl.set3 true, hc1.mono (by simp)⟩
  · have hb : b = false := by cases b <;> simp_all
    have hdn : d.down = false := by cases hx : d.down <;> simp_all
    subst hb
    exact put_alive hl h hqp hqg h7 hdn A n c rs hrx hn side at_ hs1 hat hwr

set_option maxRecDepth 100000 in
set_option maxHeartbeats 4000000 in
theorem replace_any (hl : IsLog w q p s u b) (h : IsDisk w p g d) (hqp : q ≠ p) (hqg : q ≠ g) (h7 : 7 ≤ d.secs.length) (hs1 : s ≤ 1) (A : Option Addr) (n c : Nat) (rs : Wal.Secs) (hrx : RsX w [p, g, q] A n rs) (hn : n ≤ 100000) (hwr : d.writes < 900000) :
    Calls Try.prog 18 #[.pointer (some ⟨q, 0, none⟩), .slice A n c] w (PutAny w q p g (Wal.putD d ⟨s, u, b⟩ rs (1 - s) 0)) := by
  have c0 := hl.c1
  have hput := put_any hl h hqp hqg h7 A n c rs hrx hn (1 - s) 0 (by omega) (by omega) hwr
  have hs : s = 0 ∨ s = 1 := by omega
  generalize Wal.putD d ⟨s, u, b⟩ rs (1 - s) 0 = R at *
  rcases hs with rfl | rfl
  all_goals
    go_enter Try.func18, Try.ntmps18
    go_wp2_with fail
    refine hput.mono ?_
    rintro e w1 ⟨rfl, id1, il1, hc1⟩
    go_wp2
    go_ret
    exact ⟨rfl, id1, il1, hc1⟩
end

set_option maxHeartbeats 400000 in
theorem bclone_any (A : Option Addr) (n c B : Nat) (l : List UInt8) (w : World) (hd : Bs w B A n l) (hn : n ≤ 140737488355328) (hB : B ≤ w.heap.size) :
    Calls Try.prog 32 #[.slice A n c] w (Made w n l) := by
  have hq := fun (W : World) => Lib.run_eql_slice_nil (P := Try.prog) W 33 5 A n c 0 0 Try.underlying33
  cases A with
  | none =>
    have h0 : n = 0 := by
      rcases Nat.eq_zero_or_pos n with h | h
      · exact h
      · obtain ⟨ad, _, e, _⟩ := hd.at_ h
        cases e
    subst h0
    have hl : l = [] := List.eq_nil_of_length_eq_zero hd.len
    subst hl
    go_enter Try.func32, Try.ntmps32
    go_wp2
    go_ret
    exact ⟨none, 0, rfl, Nat.le_refl _, by omega, World.ownsRow_nil _ _ _ _, Below.refl _ _⟩
  | some a =>
    obtain ⟨i0, hi, hz0, hz1, hz2⟩ := info_parts info8
    have hown : (w.alloc (.cells #[] 5)).ownsRow w.heap.size 5 1 (.slice (some ⟨w.heap.size, 0, none⟩) 0 0) 0 [] :=
      World.ownsRow_made w #[] 0 (Nat.le_refl _) (by unfold maxLen; omega) (by simp)
    have hd1 : Vs (w.alloc (.cells #[] 5)) B 1 (some a) n (bv l) := Vs.alloc hd hB _
    have h63 : 0 + n ≤ maxLen := by unfold maxLen; omega
    have hb0 : Below w.heap.size w (w.alloc (.cells #[] 5)) := (Below.refl _ _).alloc (Nat.le_refl _) _
    have hle : w.heap.size ≤ (w.alloc (.cells #[] 5)).heap.size := by simp
    go_enter Try.func32, Try.ntmps32
    go_wp2_with (at_builtin; refine wpList_append _ rfl _ _ 33 rfl w.heap.size 5 i0 (.int .u8 0) 1 1 Try.underlying33 hi hz0 hz1 hz2 rfl (by omega) _ _ _ rfl hown B _ _ _ _ rfl hd1 (bv_oneCell _) h63 (by omega) (by simp) ?_)
    intro A' c' w1 hown1 g1 g2 hgr
    go_wp2
    go_ret
    exact ⟨A', c', rfl, g1, g2, hown1, below_grown hb0 hgr hle hown (Nat.le_refl _)⟩

/-- One record in a block of its own. -/
theorem RsX.one {w : World} {S : List Nat} {A : Option Addr} {n c : Nat} {l : List UInt8} (h : Bs w w.heap.size A n l) (hn : n ≤ c) (hc : c ≤ 9223372036854775807) (hA : ∀ a', A = some a' → 0 < n → a'.block ∉ S) (hS : ∀ s, s ∈ S → s < w.heap.size) (t : TypeId) :
    RsX (w.alloc (.cells #[.slice A n c] t)) S (some ⟨w.heap.size, 0, none⟩) 1 [l] := by
  refine ⟨rfl, fun i hi => ?_⟩
  have h0 : i = 0 := by simp at hi; omega
  subst h0
  have hb : Below w.heap.size w (w.alloc (.cells #[.slice A n c] t)) := (Below.refl _ _).alloc (Nat.le_refl _) _
  refine ⟨_, A, n, c, rfl, by simp, fun hm => by have := hS _ hm; simp at this, ?_, hn, hc, (Bs.below h hb).mono hb.size, hA⟩
  exact cell_new w #[.slice A n c] t (0, 0) 0

section
variable {w : World} {q p g s u : Nat} {b : Bool} {d : DS}
theorem append_put {r : List UInt8} {A1 : Option Addr} {n c1' : Nat} {w1 : World} (hl : IsLog w q p s u b) (h : IsDisk w p g d) (hqp : q ≠ p) (hqg : q ≠ g) (h7 : 7 ≤ d.secs.length) (hs1 : s ≤ 1) (hu : u ≤ 126)
    (hown : w1.ownsRow w.drew.heap.size 5 1 (.slice A1 n c1') n (bv r)) (k1 : n ≤ c1') (k2 : c1' ≤ 9223372036854775807) (hb1 : Below w.drew.heap.size w.drew w1) (hwr : d.writes < 900000) :
    Calls Try.prog 31 #[.pointer (some ⟨q, 0, none⟩), .slice (some ⟨w1.heap.size, 0, none⟩) 1 1, .int .i64 (s : Int), .int .i64 (u : Int)] (w1.alloc (.cells #[.slice A1 n c1'] 33)) (PutAny (w1.alloc (.cells #[.slice A1 n c1'] 33)) q p g (Wal.putD d ⟨s, u, b⟩ [r] s u)) := by
  have hb2 : Below w.heap.size w w1 := (Below.refl _ w).drew.trans hb1
  have hc : Chg [] w (w1.alloc (.cells #[.slice A1 n c1'] 33)) := (Chg.of_below hb2).alloc _
  have hp := h.plt
  have hg := h.glt
  have hq := hl.qlt
  have hz := hb2.size
  refine put_any (hl.chg hc (by simp)) (h.chg hc (by simp) (by simp)) hqp hqg h7 _ 1 1 [r] (RsX.one (Bs.of_own hown) k1 k2 (fun a' ha hn hm => ?_) ?_ _) (by omega) s u hs1 hu hwr
  · obtain ⟨gx, hgx, hg5, _⟩ := own_some hown hn
    rw [ha] at hgx
    injection hgx with hgx
    subst hgx
    have : w.drew.heap.size = w.heap.size := rfl
    simp at hm
    omega
  · intro s hs
    simp at hs
    omega
theorem append_chg {w1 w3 : World} {A1 : Option Addr} {n c1' : Nat} (hb1 : Below w.drew.heap.size w.drew w1) (hc3 : Chg [p, g, q] (w1.alloc (.cells #[.slice A1 n c1'] 33)) w3) : Chg [p, g, q] w w3 :=
  ((Chg.of_below (a := w) (w := w1) ((Below.refl _ w).drew.trans hb1)).alloc _).and hc3
set_option maxRecDepth 100000 in
set_option maxHeartbeats 8000000 in
theorem append_any (hl : IsLog w q p s u b) (h : IsDisk w p g d) (hqp : q ≠ p) (hqg : q ≠ g) (h7 : 7 ≤ d.secs.length) (hs1 : s ≤ 1) (hu : u ≤ 126) (A : Option Addr) (n c : Nat) (r : List UInt8) (hr : Bs w w.heap.size A n r) (hn : n ≤ 1099511627776) (hwr : d.writes < 900000) :
    Calls Try.prog 14 #[.pointer (some ⟨q, 0, none⟩), .slice A n c] w (PutAny w q p g (Wal.putD d ⟨s, u, b⟩ [r] s u)) := by
  have c1 := hl.c1
  have c2 := hl.c2
  have hcl := fun W (hW : Chg [] w W) => bclone_any A n c W.heap.size r W (bs_chgX hr (by simp) hW) (by omega) (Nat.le_refl _)
  go_enter Try.func14, Try.ntmps14
  go_wp2_with fail
  go_region_with (first | (go_at_call 32; refine (hcl _ (Chg.refl [] w).drew).mono ?_; rintro e w1 ⟨A1, c1', rfl, k1, k2, hown, hb1⟩; have q1 := (hb1.cell (p := ⟨q, 1, none⟩) (by simpa using hl.qlt)).trans (by simpa using c1); have q2 := (hb1.cell (p := ⟨q, 2, none⟩) (by simpa using hl.qlt)).trans (by simpa using c2); have hn1 : w1.heap.size ≠ q := World.new_ne w1 ⟨q, 1, none⟩ q1; have hn2 : q ≠ w1.heap.size := Ne.symm hn1; have hn3 : q < w1.heap.size := World.block_lt_of_cell? w1 _ q1; have q3 := (World.cell?_alloc_lt w1 (.cells #[.slice A1 n c1'] 33) ⟨q, 1, none⟩ hn3).trans q1; have q4 := (World.cell?_alloc_lt w1 (.cells #[.slice A1 n c1'] 33) ⟨q, 2, none⟩ hn3).trans q2; have HPUT := Lib.hid (append_put hl h hqp hqg h7 hs1 hu hown k1 k2 hb1 hwr)) | (go_at_call 31; refine HPUT.out.mono ?_; rintro e w3 ⟨rfl, id3, il3, hc3⟩))
  all_goals go_wp2
  all_goals go_ret
  all_goals exact ⟨rfl, id3, il3, append_chg hb1 hc3⟩
end
end Go.Proofs.Ytgaplcgenlphdaa
