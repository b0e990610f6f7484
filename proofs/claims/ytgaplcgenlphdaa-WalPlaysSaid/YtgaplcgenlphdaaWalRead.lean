/- THE WALK of read: a disk's headers. -/
import Derived.Test.YtgaplcgenlphdaaWalHeads
namespace Go.Proofs.Ytgaplcgenlphdaa
open Go.RowKit Mem

/-- Two results, of which the first lies in memory. -/
theorem results_arr2 {P : Program} {fn : Func} {p s : Tmp} {ty : TypeId} (h : fn.results = #[.cell p ty, .tmp s]) (tmps : Array Value) (w : World) (g o n : Nat) (d : TypeDesc)
    (hp : tmps.getD p undef = .pointer (some ⟨g, o, none⟩)) (hu : P.underlying ty = some d) (hd : (match d with | .struct _ | .array _ _ => true | _ => false) = true) (hi : (P.info? ty).map (·.size) = some n) (hh : Has w g o n) :
    (results fn tmps).run P w = .ok (.tuple #[.agg (arr w g o n), tmps.getD s undef]) w := by
  have hp' : tmps[p]?.getD undef = .pointer (some ⟨g, o, none⟩) := by simpa using hp
  have hl := run_load_arr (P := P) w ty g o n d hu hd hi hh
  simp only [Instr.loadAt, Instr.sureAddr, Sem.run_bind, Sem.run_pure, Result.andThen_ok] at hl
  simp [results, h, hp', asAddr, hl]

theorem Has.part {w : World} {g o n o' n' : Nat} (h : Has w g o n) (h1 : o ≤ o') (h2 : o' + n' ≤ o + n) : Has w g o' n' := fun j hj => by
  have := h (o' - o + j) (by omega)
  rwa [show o + (o' - o + j) = o' + j by omega] at this
theorem Fre.part {w : World} {g o n o' n' : Nat} (h : Fre w g o n) (h1 : o ≤ o') (h2 : o' + n' ≤ o + n) : Fre w g o' n' := fun j hj => by
  have := h (o' - o + j) (by omega)
  rwa [show o + (o' - o + j) = o' + j by omega] at this
theorem Has.block_lt {w : World} {g o n : Nat} (h : Has w g o n) (hn : 0 < n) : g < w.heap.size := by
  have := h 0 hn
  obtain ⟨v, hv⟩ := Option.isSome_iff_exists.1 this
  exact World.block_lt_of_cell? w _ hv
theorem Arr.below {w w' : World} {g o : Nat} {l : List UInt8} (h : Arr w g o l) (hb : Below w.heap.size w w') (hg : g < w.heap.size) : Arr w' g o l := fun j hj => (hb.cell (p := ⟨g, o + j, none⟩) hg).trans (h j hj)
theorem Arr.snoc {w : World} {g o : Nat} {x y : List UInt8} (h : Arr w g o x) (h2 : Arr w g (o + x.length) y) : Arr w g o (x ++ y) := fun j hj => by
  by_cases hx : j < x.length
  · rw [h j hx, List.getElem_append_left hx]
  · have := h2 (j - x.length) (by rw [List.length_append] at hj; omega)
    rw [show o + x.length + (j - x.length) = o + j by omega] at this
    rw [this, List.getElem_append_right (by omega)]
theorem Bs.arr {w : World} {B n g o : Nat} {l : List UInt8} (h : Bs w B (some ⟨g, o, none⟩) n l) : Arr w g o l := fun j hj => by
  obtain ⟨ad, hl, e, _, hc⟩ := Bs.at_ h (k := j) (by rw [← Bs.len h]; exact hj)
  injection e with e
  subst e
  rw [← hc]
  congr 1
  unfold Addr.add
  split <;> simp_all

theorem three_take (a b c : List UInt8) (ha : a.length = 128) (hb : b.length = 128) (hc : c.length = 128) : (three a b c).take 128 = a ∧ (three a b c).take 256 = a ++ b ∧ (three a b c).take 384 = (a ++ b) ++ c := by
  unfold three
  refine ⟨List.take_left' ha, ?_, ?_⟩
  · rw [← List.append_assoc]
    exact List.take_left' (by rw [List.length_append]; omega)
  · rw [← List.append_assoc]
    exact List.take_of_length_le (by simp; omega)
section
variable {w : World} {q p g s u : Nat} {b : Bool} {d : DS}
set_option maxRecDepth 100000 in
set_option maxHeartbeats 1000000 in
theorem read_no (hl : IsLog w q p s u b) (h : IsDisk w p g d) (h7 : 7 ≤ d.secs.length) (hdn : d.down = true) : Calls Try.prog 26 #[.pointer (some ⟨q, 0, none⟩)] w fun e w' => ∃ V, Cells V 384 ∧ e = .returned (.tuple #[.agg V, .int .i64 26]) ∧ Below w.heap.size w w' := by
  obtain ⟨w0, hw0⟩ : ∃ w0, (w.alloc (.cells zheads 58)).alloc (.cells zheads 58) = w0 := ⟨_, rfl⟩
  have hbl1 : w0.heap[w.heap.size]? = some (.cells zheads 58 (0, 0)) := by
    rw [← hw0, Below.heap_alloc _ _ _ (by simp)]
    exact heap_alloc_last w _
  have hbl2 : w0.heap[w.heap.size + 1]? = some (.cells zheads 58 (0, 0)) := by
    have := heap_alloc_last (w.alloc (.cells zheads 58)) (.cells zheads 58)
    rw [← hw0]
    simpa using this
  have hb0 : Below w.heap.size w w0 := by rw [← hw0]; exact ((Below.refl _ _).alloc (Nat.le_refl _) _).alloc (by simp) _
  have x1 := (arr_block hbl1 (n := 384) zheads_size).2
  have x2 := (arr_block hbl2 (n := 384) zheads_size).2
  have x3 := (arr_block hbl2 (n := 384) zheads_size).1
  have f1 := fre_block (o := 0) (n := 384) hbl1
  have hz : Cells zheads 384 := ⟨zheads_size, by
    intro v hv
    exact bv_oneCell _ v (by simpa [zheads] using hv)⟩
  have hd0 := h.chg (Chg.of_below (S := []) hb0) (by simp) (by simp)
  have hl0 := hl.chg (Chg.of_below (S := []) hb0) (by simp)
  have l0 := hl0.c0
  have hr := read_down hd0 0 (by omega) (by omega) hdn
  clear hbl1 hbl2 hl hl0 h
  go_enter Try.func26, Try.ntmps26
  go_wp2
  go_loopw [5, 6, 7, 8] (fun _ _ _ i wr => i = .int .i64 0 ∧ w0 = wr) (fun _ _ _ _ _ => 0)
  case atStart => exact ⟨rfl, rfl⟩
  case round =>
    obtain ⟨rfl, rfl⟩ := hrel
    go_wp2_with fail
    refine hr.mono ?_
    rintro e w' ⟨rfl, rfl⟩
    go_wp2
    refine bodyPost_ret (results_arr2 (P := Try.prog) Try.results26 _ _ w.heap.size 0 384 _ rfl Try.underlying58 rfl size_heads (by rw [has_setCells]; exact x1)) rfl ?_
    exact ⟨_, ⟨arr_size _ _ _ _, by rw [arr_setCells_same _ _ _ _ _ (by simpa using zheads_size) x1]; simpa using hz.2⟩, rfl, ((Chg.of_below (S := []) hb0).setCells _ (.inr (Nat.le_refl _))).below (by simp)⟩

set_option maxRecDepth 100000 in
set_option maxHeartbeats 2000000 in
/-- The headers of a disk whose power is there. -/
theorem read_yes (hl : IsLog w q p s u b) (h : IsDisk w p g d) (h7 : 7 ≤ d.secs.length) (hdn : d.down = false) : Calls Try.prog 26 #[.pointer (some ⟨q, 0, none⟩)] w fun e w' => e = .returned (.tuple #[.agg (bv (three (Wal.sec d.secs 0) (Wal.sec d.secs 1) (Wal.sec d.secs 2))).toArray, .int .i64 0]) ∧ Below w.heap.size w w' := by
  have hsec : ∀ k, (hk : k < 7) → Wal.sec d.secs k = d.secs[k] := fun k hk => by unfold Wal.sec; rw [List.getD_eq_getElem?_getD, List.getElem?_eq_getElem]; rfl
  have hs128 : ∀ k, k < 3 → (Wal.sec d.secs k).length = 128 := fun k hk => by rw [hsec k (by omega)]; exact (h.secs k (by omega)).1
  obtain ⟨T, hT⟩ : ∃ T, three (Wal.sec d.secs 0) (Wal.sec d.secs 1) (Wal.sec d.secs 2) = T := ⟨_, rfl⟩
  have hTl : T.length = 384 := by rw [← hT]; exact three_length (hs128 0 (by omega)) (hs128 1 (by omega)) (hs128 2 (by omega))
  have hpre : ∀ k, k < 3 → T.take (k * 128 + 128) = T.take (k * 128) ++ Wal.sec d.secs k := by
    intro k hk
    obtain ⟨t1, t2, t3⟩ := three_take _ _ _ (hs128 0 (by omega)) (hs128 1 (by omega)) (hs128 2 (by omega))
    rw [hT] at t1 t2 t3
    have : k = 0 ∨ k = 1 ∨ k = 2 := by omega
    rcases this with rfl | rfl | rfl
    · rw [show 0 * 128 + 128 = 128 from rfl, t1]
      simp
    · rw [show 1 * 128 + 128 = 256 from rfl, t2, show 1 * 128 = 128 from rfl, t1]
    · rw [show 2 * 128 + 128 = 384 from rfl, t3, show 2 * 128 = 256 from rfl, t2]
  obtain ⟨w0, hw0⟩ : ∃ w0, (w.alloc (.cells zheads 58)).alloc (.cells zheads 58) = w0 := ⟨_, rfl⟩
  have hbl1 : w0.heap[w.heap.size]? = some (.cells zheads 58 (0, 0)) := by
    rw [← hw0, Below.heap_alloc _ _ _ (by simp)]
    exact heap_alloc_last w _
  have hbl2 : w0.heap[w.heap.size + 1]? = some (.cells zheads 58 (0, 0)) := by
    have := heap_alloc_last (w.alloc (.cells zheads 58)) (.cells zheads 58)
    rw [← hw0]
    simpa using this
  have hb0 : Below w.heap.size w w0 := by rw [← hw0]; exact ((Below.refl _ _).alloc (Nat.le_refl _) _).alloc (by simp) _
  have x1 := (arr_block hbl1 (n := 384) zheads_size).2
  have x2 := (arr_block hbl2 (n := 384) zheads_size).2
  have f1 := fre_block (o := 0) (n := 384) hbl1
  have f2 := fre_block (o := 0) (n := 384) hbl2
  have z0 : w.heap.size + 1 < w0.heap.size := by rw [← hw0]; simp
  have HP := Lib.hid hpre
  have HT := Lib.hid hT
  have HTL := Lib.hid hTl
  have HS := Lib.hid hsec
  have H128 := Lib.hid hs128
  have HL := Lib.hid hl
  have HD := Lib.hid h
  have HX1 := Lib.hid x1
  have HF1 := Lib.hid f1
  clear hbl1 hbl2 hpre hT hTl hsec hs128 x1 f1 h hl
  rw [HT.out]
  go_enter Try.func26, Try.ntmps26
  go_wp2
  go_loopw [5, 6, 7, 8] (fun _ _ _ i wr => ∃ k : Nat, k ≤ 3 ∧ i = .int .i64 k ∧ Has wr w.heap.size 0 384 ∧ Fre wr w.heap.size 0 384 ∧ Has wr (w.heap.size + 1) 0 384 ∧ Fre wr (w.heap.size + 1) 0 384 ∧ Arr wr (w.heap.size + 1) 0 (T.take (k * 128)) ∧ w.heap.size + 1 < wr.heap.size ∧ Below w.heap.size w wr) (fun _ _ _ i _ => 3 - (intOf i).toNat)
  case atStart => exact ⟨0, by omega, rfl, HX1.out, HF1.out, x2, f2, fun j hj => by simp at hj, z0, hb0⟩
  case round =>
    clear x2 f2 z0 hb0 hw0
    obtain ⟨k, hk, rfl, a1, b1, a2, b2, ha, hz, hb⟩ := hrel
    by_cases hlt : k < 3
    · have hd' := HD.out.chg (Chg.of_below (S := []) hb) (by simp) (by simp)
      have hl' := HL.out.chg (Chg.of_below (S := []) hb) (by simp)
      have l0 := hl'.c0
      have hr := read_ok hd' k (by omega) hdn
      rw [← HS.out k (by omega)] at hr
      have hlen := H128.out k hlt
      have hpk := HP.out k hlt
      have HPK := Lib.hid hpk
      have hpl : (T.take (k * 128)).length = k * 128 := by rw [List.length_take, HTL.out]; omega
      have HPL := Lib.hid hpl
      have HLEN := Lib.hid hlen
      generalize Wal.sec d.secs k = sk at *
      have hcl := bv_cells sk hlen
      have HA := Lib.hid ha
      have HA1 := Lib.hid a1
      have HB1 := Lib.hid b1
      have HA2 := Lib.hid a2
      have HB2 := Lib.hid b2
      clear hd' hl' hpk hpl hlen a1 b1
      go_wp2_with fail
      refine hr.mono ?_
      rintro e w1 ⟨A, c, rfl, g1, g2, hown, hb1⟩
      obtain ⟨gb, rfl, gg1, gg2⟩ := own_some hown (by omega)
      have har : Arr w1 gb 0 sk := Bs.arr (Bs.of_own hown)
      obtain ⟨m1, m2⟩ := Arr.hs har HLEN.out
      have a2' : Has w1 (w.heap.size + 1) (k * 128) 128 := Has.part (a2.below hb1 (by omega)) (by omega) (by omega)
      have b2' : Fre w1 (w.heap.size + 1) (k * 128) 128 := Fre.part (b2.below hb1 (by omega)) (by omega) (by omega)
      have hbb : Below w.heap.size w w1 := hb.trans (hb1.mono hb.size)
      have hz1 := hb1.size
      have l01 : w1.cell? ⟨q, 0, none⟩ = some (.pointer (some ⟨p, 0, none⟩)) := by
        rw [hb1.cell (p := ⟨q, 0, none⟩) (by exact Nat.lt_of_lt_of_le HL.out.qlt hb.size)]
        exact l0
      clear hown har hr a2 b2
      have hh := fun W => run_header_of W (some ⟨gb, 0, none⟩) 128 c (Nat.le_refl _)
      go_wp2
      go_roundw
      case rel =>
        have k1 : Arr w1 (w.heap.size + 1) 0 (T.take (k * 128)) := Arr.below HA.out hb1 (by omega)
        have hH : Has w1 (w.heap.size + 1) (0 + (T.take (k * 128)).length) sk.length := by rw [HPL.out, HLEN.out, Nat.zero_add]; exact a2'
        have k2 := Arr.of_setCells sk w1 (w.heap.size + 1) (0 + (T.take (k * 128)).length) hH
        rw [HPL.out, Nat.zero_add] at k2
        have k3 : Arr (w1.setCells (w.heap.size + 1) (k * 128) (bv sk)) (w.heap.size + 1) 0 (T.take (k * 128)) := k1.keep_far fun j _ h2 => setcs_out _ _ _ _ _ (.inl (by rw [HPL.out] at h2; omega))
        have k4 : Arr (w1.setCells (w.heap.size + 1) (k * 128) (bv sk)) (w.heap.size + 1) 0 (T.take ((k + 1) * 128)) := by
          rw [show (k + 1) * 128 = k * 128 + 128 by omega, HPK.out]
          exact Arr.snoc k3 (by rw [HPL.out, Nat.zero_add]; exact k2)
        exact ⟨k + 1, by omega, by go_num, has_setCells _ _ _ _ |>.2 (HA1.out.below hb1 (by omega)), fre_setCells _ _ _ _ |>.2 (HB1.out.below hb1 (by omega)), has_setCells _ _ _ _ |>.2 (HA2.out.below hb1 (by omega)), fre_setCells _ _ _ _ |>.2 (HB2.out.below hb1 (by omega)), k4, by rw [size_setCells]; omega, ((Chg.of_below (S := []) hbb).setCells _ (.inr (by show w.heap.size ≤ w.heap.size + 1; omega))).below (by simp)⟩
      case measure => simp [intOf]; omega
    · obtain rfl : k = 3 := by omega
      rw [show 3 * 128 = 384 from rfl, List.take_of_length_le (by rw [HTL.out]; exact Nat.le_refl _)] at ha
      obtain ⟨_, m2⟩ := Arr.hs ha HTL.out
      have hcl := bv_cells T HTL.out
      have HAR := Lib.hid a1
      have hlv : (bv T).length = 384 := by rw [bv_length, HTL.out]
      have HLV := Lib.hid hlv
      clear ha hlv
      go_wp2
      refine bodyPost_ret (results_arr2 (P := Try.prog) Try.results26 _ _ w.heap.size 0 384 _ rfl Try.underlying58 rfl size_heads (by rw [has_setCells]; exact HAR.out)) rfl ?_
      rw [arr_setCells_same _ _ _ _ _ HLV.out HAR.out]
      exact ⟨rfl, ((Chg.of_below (S := []) hb).setCells _ (.inr (Nat.le_refl _))).below (by simp)⟩
end
end Go.Proofs.Ytgaplcgenlphdaa
