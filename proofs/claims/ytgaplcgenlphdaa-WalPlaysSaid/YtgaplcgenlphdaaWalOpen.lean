/- THE WALK of Open. -/
import Derived.Test.YtgaplcgenlphdaaWalRecs
namespace Go.Proofs.Ytgaplcgenlphdaa
open Go.RowKit Mem

def OpenAny (w : World) (p g : Nat) (r : DS × (Int ⊕ (Nat × Nat × Wal.Secs))) (e : Ending) (w' : World) : Prop :=
  IsDisk w' p g r.1 ∧ Chg [p, g] w w' ∧
    ((∃ x, r.2 = .inl x ∧ e = .returned (.tuple #[.pointer none, .slice none 0 0, .int .i64 x])) ∨
     ∃ s u rs q A n c xs, r.2 = .inr (s, u, rs) ∧ e = .returned (.tuple #[.pointer (some ⟨q, 0, none⟩), .slice A n c, .int .i64 0]) ∧ n ≤ c ∧ IsLog w' q p s u false ∧ w.heap.size ≤ q ∧ Row w' w.heap.size [] (.slice A n c) n xs rs)

theorem open_nil (w : World) : Calls Try.prog 9 #[.pointer none] w fun e w' => e = .returned (.tuple #[.pointer none, .slice none 0 0, .int .i64 1]) ∧ w = w' := by
  go_enter Try.func9, Try.ntmps9
  go_wp2
  go_ret3
  exact ⟨rfl, rfl⟩
section
variable {w : World} {p g : Nat} {d : DS}
theorem wopen_few (h : IsDisk w p g d) (h7 : d.secs.length < 7) : Calls Try.prog 9 #[.pointer (some ⟨p, 0, none⟩)] w fun e w' => e = .returned (.tuple #[.pointer none, .slice none 0 0, .int .i64 1]) ∧ w = w' := by
  go_enter Try.func9, Try.ntmps9
  go_wp2_with fail
  refine (len_any h).mono ?_
  rintro e w' ⟨rfl, rfl⟩
  go_wp2
  go_ret3
  exact ⟨rfl, rfl⟩
theorem content_succ (S : Wal.Secs) (b0 k : Nat) (h : b0 + k < S.length) : ((S.drop b0).take (k + 1)).flatten = ((S.drop b0).take k).flatten ++ S[b0 + k] := by
  rw [List.take_succ_eq_append_getElem (by rw [List.length_drop]; omega), List.flatten_append, List.getElem_drop]
  simp

theorem half_bound (h : IsDisk w p g d) : Wal.half d.secs.length ≤ 126 := by
  have := h.max
  unfold Wal.half
  omega
theorem Row.base {W : World} {b b' : Nat} {S : List Nat} {v : Value} {n : Nat} {xs : List Value} {L : List (List UInt8)} (h : Row W b S v n xs L) (hb : b' ≤ b) : Row W b' S v n xs L := ⟨own_base h.own hb, h.len, h.rd⟩

set_option maxRecDepth 100000 in
set_option maxHeartbeats 4000000 in
theorem wopen_down (h : IsDisk w p g d) (h7 : 7 ≤ d.secs.length) (hdn : d.down = true) : Calls Try.prog 9 #[.pointer (some ⟨p, 0, none⟩)] w fun e w' => e = .returned (.tuple #[.pointer none, .slice none 0 0, .int .i64 26]) ∧ Below w.heap.size w w' := by
  obtain ⟨w1, hw1⟩ : ∃ w1, w.alloc (.cells #[.pointer (some ⟨p, 0, none⟩), .int .i64 0, .int .i64 0, .bool false] 55) = w1 := ⟨_, rfl⟩
  have hbk : w1.heap[w.heap.size]? = some (.cells #[.pointer (some ⟨p, 0, none⟩), .int .i64 0, .int .i64 0, .bool false] 55 (0, 0)) := by rw [← hw1]; exact heap_alloc_last w _
  have hb1 : Below w.heap.size w w1 := by rw [← hw1]; exact (Below.refl _ _).alloc (Nat.le_refl _) _
  have il : IsLog w1 w.heap.size p 0 0 false := ⟨cell_of_row w1 _ 0 _ _ _ hbk, cell_of_row w1 _ 1 _ _ _ hbk, cell_of_row w1 _ 2 _ _ _ hbk, cell_of_row w1 _ 3 _ _ _ hbk, fun o => frozen_of_row w1 _ o _ _ hbk, by rw [← hw1]; simp⟩
  have id := h.chg (Chg.of_below (S := []) hb1) (by simp) (by simp)
  have hr := read_no il id h7 hdn
  have hnl : ¬ d.secs.length < 7 := by omega
  clear hbk il id
  go_enter Try.func9, Try.ntmps9
  go_wp2_with fail
  refine (len_any h).mono ?_
  rintro e w' ⟨rfl, rfl⟩
  go_wp2_with fail
  refine hr.mono ?_
  rintro e w2 ⟨V, hV, rfl, hb2⟩
  have hbz := heap_alloc_last w2 (.cells zheads 58)
  have g1 := (arr_block hbz (n := 384) zheads_size).2
  have g2 := fre_block (o := 0) (n := 384) hbz
  clear hbz hw1
  go_wp2
  go_ret3
  have hb3 : Below w2.heap.size w2 ((w2.alloc (.cells zheads 58)).setCells w2.heap.size 0 V.toList) := ((Chg.of_below (S := []) ((Below.refl _ _).alloc (Nat.le_refl _) _)).setCells _ (.inr (Nat.le_refl _))).below (by simp)
  have hb12 := hb1.trans (hb2.mono hb1.size)
  exact ⟨rfl, hb12.trans (hb3.mono hb12.size)⟩

set_option maxRecDepth 100000 in
set_option maxHeartbeats 8000000 in
theorem wopen_alive (h : IsDisk w p g d) (h7 : 7 ≤ d.secs.length) (hdn : d.down = false) (hwr : d.writes < 1000000) : Calls Try.prog 9 #[.pointer (some ⟨p, 0, none⟩)] w (OpenAny w p g (Wal.openD d)) := by
  obtain ⟨w1, hw1⟩ : ∃ w1, w.alloc (.cells #[.pointer (some ⟨p, 0, none⟩), .int .i64 0, .int .i64 0, .bool false] 55) = w1 := ⟨_, rfl⟩
  have hbk : w1.heap[w.heap.size]? = some (.cells #[.pointer (some ⟨p, 0, none⟩), .int .i64 0, .int .i64 0, .bool false] 55 (0, 0)) := by rw [← hw1]; exact heap_alloc_last w _
  have hb1 : Below w.heap.size w w1 := by rw [← hw1]; exact (Below.refl _ _).alloc (Nat.le_refl _) _
  have il : IsLog w1 w.heap.size p 0 0 false := ⟨cell_of_row w1 _ 0 _ _ _ hbk, cell_of_row w1 _ 1 _ _ _ hbk, cell_of_row w1 _ 2 _ _ _ hbk, cell_of_row w1 _ 3 _ _ _ hbk, fun o => frozen_of_row w1 _ o _ _ hbk, by rw [← hw1]; simp⟩
  have id := h.chg (Chg.of_below (S := []) hb1) (by simp) (by simp)
  have hr := read_yes il id h7 hdn
  have hnl : ¬ d.secs.length < 7 := by omega
  have hqp : w.heap.size ≠ p := by have := h.plt; omega
  have hqg : w.heap.size ≠ g := by have := h.glt; omega
  have hset := fun W (il : IsLog W w.heap.size p 0 0 false) (id : IsDisk W p g d) => settle_any il id h7 hdn hqp hqg hwr
  have hop : Wal.openD d = if (Wal.wrAll d (Wal.fixes d.secs (Wal.hd d.secs) 0)).2 = 0 then Wal.openR (Wal.wrAll d (Wal.fixes d.secs (Wal.hd d.secs) 0)).1 (Wal.norm d.secs.length (Wal.hd d.secs)).1 (Wal.norm d.secs.length (Wal.hd d.secs)).2
      else ((Wal.wrAll d (Wal.fixes d.secs (Wal.hd d.secs) 0)).1, .inl (Wal.wrAll d (Wal.fixes d.secs (Wal.hd d.secs) 0)).2) := by unfold Wal.openD; rw [if_neg hnl, hdn]; rfl
  have hnb := Wal.norm_bound d.secs.length (Wal.hd d.secs)
  have hlen := wrAll_length (Wal.fixes d.secs (Wal.hd d.secs) 0) d
  have hx : (Wal.wrAll d (Wal.fixes d.secs (Wal.hd d.secs) 0)).2 = 0 → (Wal.wrAll d (Wal.fixes d.secs (Wal.hd d.secs) 0)).1.down = false := wrAll_down _ d hdn
  have hxc := wrAll_err (Wal.fixes d.secs (Wal.hd d.secs) 0) d
  have hT : (three (Wal.sec d.secs 0) (Wal.sec d.secs 1) (Wal.sec d.secs 2)).length = 384 := by
    have key : ∀ k, k < 3 → (Wal.sec d.secs k).length = 128 := fun k hk => by
      unfold Wal.sec
      rw [List.getD_eq_getElem?_getD, List.getElem?_eq_getElem (by omega)]
      exact (h.secs k (by omega)).1
    exact three_length (key 0 (by omega)) (key 1 (by omega)) (key 2 (by omega))
  obtain ⟨T, hTT⟩ : ∃ T, three (Wal.sec d.secs 0) (Wal.sec d.secs 1) (Wal.sec d.secs 2) = T := ⟨_, rfl⟩
  rw [hTT] at hr hT
  simp only [hTT] at hset
  generalize Wal.wrAll d (Wal.fixes d.secs (Wal.hd d.secs) 0) = r at *
  generalize Wal.norm d.secs.length (Wal.hd d.secs) = su at *
  obtain ⟨d1, x⟩ := r
  obtain ⟨s, u⟩ := su
  simp only at hop hnb hlen hx hxc
  have HOP := Lib.hid hop
  have HX := Lib.hid hx
  have HLEN := Lib.hid hlen
  have HSET := Lib.hid hset
  have HT := Lib.hid hT
  have HIL := Lib.hid il
  have HID := Lib.hid id
  clear hbk hop hx hlen hset hT hTT il id
  go_enter Try.func9, Try.ntmps9
  go_wp2_with fail
  refine (len_any h).mono ?_
  rintro e w' ⟨rfl, rfl⟩
  go_wp2_with fail
  refine hr.mono ?_
  rintro e w2 ⟨rfl, hb2⟩
  have hbz := heap_alloc_last w2 (.cells zheads 58)
  have g1 := (arr_block hbz (n := 384) zheads_size).2
  have g2 := fre_block (o := 0) (n := 384) hbz
  have hcl := bv_cells T HT.out
  obtain ⟨w3, hw3⟩ : ∃ w3, (w2.alloc (.cells zheads 58)).setCells w2.heap.size 0 (bv T) = w3 := ⟨_, rfl⟩
  have hb3 : Below w2.heap.size w2 w3 := by rw [← hw3]; exact ((Chg.of_below (S := []) ((Below.refl _ _).alloc (Nat.le_refl _) _)).setCells _ (.inr (Nat.le_refl _))).below (by simp)
  have hA : Arr w3 w2.heap.size 0 T := by rw [← hw3]; exact Arr.of_setCells T _ _ _ (by rw [HT.out]; exact g1)
  obtain ⟨a1, a2⟩ := Arr.hs hA HT.out
  have hb23 : Below w1.heap.size w1 w3 := hb2.trans (hb3.mono hb2.size)
  have il3 := HIL.out.chg (Chg.of_below (S := []) hb23) (by simp)
  have id3 := HID.out.chg (Chg.of_below (S := []) hb23) (by simp) (by simp)
  have hst := HSET.out w3 il3 id3
  have hb03 : Below w.heap.size w w3 := hb1.trans (hb23.mono hb1.size)
  clear hbz hA hw1
  go_wp2_with fail
  refine hst.mono ?_
  rintro e w4 ⟨rfl, id4, il4, hc4⟩
  have hc04 : Chg [p, g] w w4 := by
    have h1 : Chg [p, g] w3 w4 ∨ True := .inr trivial
    refine (Chg.of_below (S := [p, g]) hb03).trans hc4 fun s hs => ?_
    simp at hs
    rcases hs with rfl | rfl | rfl
    · exact .inl (by simp)
    · exact .inl (by simp)
    · exact .inr (Nat.le_refl _)
  simp only at id4 il4
  clear hst hw3 g1 g2 hcl a1 a2 il3 id3 hc4 hb3
  by_cases hx0 : x = 0
  · subst hx0
    obtain ⟨i8, hi8, hz8, hs8, hb8⟩ := info_parts info8
    have hdn1 := HX.out (by trivial)
    have hopen : Wal.openD d = Wal.openR d1 s u := by rw [HOP.out]; exact if_pos (by trivial)
    have HOPN := Lib.hid hopen
    have hh := half_bound id4
    have hl1 := HLEN.out
    have hn4 : u ≤ Wal.half d1.secs.length := by rw [hl1]; exact hnb.2
    have h71 : 7 ≤ d1.secs.length := by rw [hl1]; exact h7
    have harea := Wal.area hnb.1 hn4 h71
    have hat := fun W (i1 : IsLog W w.heap.size p s u false) (i2 : IsDisk W p g d1) k (hk : k ≤ 1000) => at_any i1 i2 h71 s k hnb.1 hk
    obtain ⟨b0, hb0⟩ : ∃ b0, 3 + s * Wal.half d1.secs.length = b0 := ⟨_, rfl⟩
    rw [hb0] at harea
    simp only [hb0] at hat
    have hq4 := il4.qlt
    have q2 := il4.c2
    have hu126 : u ≤ 126 := by omega
    have h128 : ∀ k, (hk : k < d1.secs.length) → d1.secs[k].length = 128 := fun k hk => (id4.secs k hk).1
    have hcont : Hid (Wal.content d1.secs s u = ((d1.secs.drop b0).take u).flatten) := Lib.hid (by unfold Wal.content; rw [hb0])
    have HL1 := Lib.hid hl1
    have HAT := Lib.hid hat
    have H128 := Lib.hid h128
    have HDN := Lib.hid hdn1
    have IL4 := Lib.hid il4
    have ID4 := Lib.hid id4
    clear hxc HX HOP hopen hl1 hat h128 hb0 hdn1 hr
    go_wp2_with fail
    go_loopw [8, 9, 10, 11, 41] (fun vb _ _ _ i wr => ∃ (k N : Nat) (A8 : Option Addr) (c8 : Nat), k ≤ u ∧ Hid (N = k * 128) ∧ i = .int .i64 k ∧ vb = .slice A8 N c8 ∧ wr.ownsRow w4.heap.size 5 1 (.slice A8 N c8) N (bv ((d1.secs.drop b0).take k).flatten) ∧ Below w4.heap.size w4 wr) (fun _ _ _ _ i _ => u - (intOf i).toNat)
    case atStart => exact ⟨0, 0, none, 0, by omega, Lib.hid rfl, rfl, rfl, World.ownsRow_nil _ _ _ _, Below.refl _ _⟩
    case round =>
      obtain ⟨k, N, A8, c8, hk, HN, rfl, rfl, hown, hb⟩ := hrel
      have hN := HN.out
      have hN2 : N ≤ 20000 := by omega
      have hB := hb.size
      have ilr := IL4.out.chg (Chg.of_below (S := []) hb) (by simp)
      have idr := ID4.out.chg (Chg.of_below (S := []) hb) (by simp) (by simp)
      by_cases hlt : k < u
      · have q0 := ilr.c0
        have q1 := ilr.c1
        have hatk := HAT.out wr ilr idr k (by omega)
        have hrd := read_ok idr (b0 + k) (by omega) HDN.out
        have hsucc := content_succ d1.secs b0 k (by omega)
        have hl128 := H128.out (b0 + k) (by omega)
        have hbv : bv ((d1.secs.drop b0).take (k + 1)).flatten = bv ((d1.secs.drop b0).take k).flatten ++ bv d1.secs[b0 + k] := by rw [hsucc, bv_append]
        have HBV := Lib.hid hbv
        generalize d1.secs[b0 + k] = sk at *
        have HSK := Lib.hid hl128
        have h63 : N + 128 ≤ maxLen := by unfold maxLen; omega
        have hone := bv_oneCell sk
        clear ilr idr hsucc hl128 hbv hN
        go_wp2_with fail
        refine hatk.mono ?_
        rintro e w' ⟨rfl, rfl⟩
        go_wp2_with fail
        refine hrd.mono ?_
        rintro e w5 ⟨A5, c5, rfl, k1, k2, hown5, hb5⟩
        have hb45 := hb.trans (hb5.mono hB)
        have hown' := own_below hown hb5 (Nat.le_refl _)
        have hv5 : Vs w5 w5.heap.size 1 A5 128 (bv sk) := Vs.of_own hown5
        go_wp2_with (at_builtin; go_must (refine wpList_append w5 rfl (.tmp 59) (.tmp 60) 33 rfl w4.heap.size 5 i8 (.int .u8 0) 1 1 Try.underlying33 hi8 hz8 hs8 hb8 rfl (by omega) _ _ _ rfl hown' w5.heap.size A5 128 c5 _ rfl hv5 hone h63 (by omega) hb45.size ?_))
        intro A6 c6 w6 hown6 k3 k4 hgr
        have hb6 : Below w4.heap.size w4 w6 := below_grown hb45 hgr hb45.size hown' (Nat.le_refl _)
        have hown7 : w6.ownsRow w4.heap.size 5 1 (.slice A6 (N + 128) c6) (N + 128) (bv ((d1.secs.drop b0).take (k + 1)).flatten) := by rw [HBV.out]; exact hown6
        clear hown hown' hown5 hown6 hgr hv5 hb hb5 hb45 hatk hrd
        go_wp2
        go_roundw
        case rel => exact ⟨k + 1, N + 128, A6, c6, by omega, Lib.hid (by rw [HN.out]; omega), by go_num, rfl, hown7, hb6⟩
        case measure => simp [intOf]; omega
      · obtain rfl : k = u := by omega
        have hbs := Bs.of_own hown
        obtain ⟨_, _, hf5, g51, g52⟩ := own_form hown
        injection hf5 with f1 f2 f3
        subst f1 f3
        have hrec := records_any A8 N c8 _ k _ wr hbs hN (by omega) g51 g52 (Nat.le_refl _)
        rw [← hcont.out] at hrec
        have HOR : Hid (Wal.openR d1 s k = match Wal.parse k (Wal.content d1.secs s k) with
          | none => (d1, .inl 5)
          | some rs => (d1, .inr (s, k, rs))) := Lib.hid rfl
        generalize Wal.parse k (Wal.content d1.secs s k) = pr at *
        have ILR := Lib.hid ilr
        have IDR := Lib.hid idr
        have hc0r : Chg [p, g] w wr := hc04.and_below hb
        have hw4r : w.heap.size ≤ wr.heap.size := hc0r.size
        clear f2 hown hbs ilr idr hlt hN q2 hk hn4
        go_wp2_with fail
        refine hrec.mono ?_
        rintro e w7 (⟨rfl, rfl, hb7⟩ | ⟨L, A7, n7, c7, xs, rfl, rfl, k5, hrow, hb7⟩)
        · go_wp2
          go_ret3
          refine ⟨?_, hc0r.and_below hb7, .inl ⟨5, ?_, rfl⟩⟩
          · rw [HOPN.out, HOR.out]
            exact IDR.out.chg (Chg.of_below (S := []) hb7) (by simp) (by simp)
          · rw [HOPN.out, HOR.out]
        · go_wp2
          go_ret3
          refine ⟨?_, hc0r.and_below hb7, .inr ⟨s, k, L, w.heap.size, A7, n7, c7, xs, ?_, rfl, k5, ILR.out.chg (Chg.of_below (S := []) hb7) (by simp), Nat.le_refl _, hrow.base hw4r⟩⟩
          · rw [HOPN.out, HOR.out]
            exact IDR.out.chg (Chg.of_below (S := []) hb7) (by simp) (by simp)
          · rw [HOPN.out, HOR.out]
  · have hop : Wal.openD d = (d1, .inl x) := by rw [HOP.out, if_neg hx0]
    have HO2 := Lib.hid hop
    have hxc2 := hxc.resolve_left hx0
    clear hop hxc hx0 HOP hr
    rcases hxc2 with rfl | rfl
    all_goals
      go_wp2
      go_ret3
      exact ⟨by rw [HO2.out]; exact id4, hc04, .inl ⟨_, by rw [HO2.out], rfl⟩⟩
end
end Go.Proofs.Ytgaplcgenlphdaa
