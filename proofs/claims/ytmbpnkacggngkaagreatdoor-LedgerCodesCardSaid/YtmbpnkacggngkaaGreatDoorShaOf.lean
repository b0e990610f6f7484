/- THE WALK of the reference's Of, at 32 bits. -/
import Derived.Test.YtmbpnkacggngkaaGreatDoorShaSum
import Derived.Test.YtmbpnkacggngkaaGreatDoorShaRoot
import Derived.Test.YtmbpnkacggngkaaGreatDoorShaPrimes
import Derived.Test.YtmbpnkacggngkaaGreatDoorMix
import Derived.Test.YtmbpnkacggngkaaGreatDoorLedDec
namespace Go.Proofs.YtmbpnkacggngkaaGreatDoor
open Go.RowKit Mem

def zeroH : List Value := [.int .i64 0, .int .i64 0, .slice none 0 0, .slice none 0 0, .slice none 0 0, .slice none 0 0, .slice none 0 0, .slice none 0 0]
theorem zeroH_one : ∀ v ∈ zeroH, v.oneCell' = true := by
  intro v hv
  simp only [zeroH, List.mem_cons, List.not_mem_nil, or_false] at hv
  rcases hv with rfl | rfl | rfl | rfl | rfl | rfl | rfl | rfl <;> rfl
def cellsH (b s : Int) (A B C D : Nat) (K : Option Addr) (nK cK : Nat) (F : Option Addr) (nF cF : Nat) : List Value :=
  [.int .i64 b, .int .i64 s, .slice (some ⟨A, 0, none⟩) 3 3, .slice (some ⟨B, 0, none⟩) 3 3, .slice (some ⟨C, 0, none⟩) 3 3, .slice (some ⟨D, 0, none⟩) 3 3, .slice K nK cK, .slice F nF cF]
theorem cellsH_one (b s : Int) (A B C D : Nat) (K : Option Addr) (nK cK : Nat) (F : Option Addr) (nF cF : Nat) : ∀ v ∈ cellsH b s A B C D K nK cK F nF cF, v.oneCell' = true := by
  intro v hv
  simp only [cellsH, List.mem_cons, List.not_mem_nil, or_false] at hv
  rcases hv with rfl | rfl | rfl | rfl | rfl | rfl | rfl | rfl <;> rfl
theorem of_first (w : World) : ∃ W2, (storeH (.pointer (some ⟨w.heap.size + 1 + 1 + 1 + 1 + 1, 0, none⟩)) (.agg #[.int .i64 64, .int .i64 80, .slice (some ⟨w.heap.size + 1, 0, none⟩) 3 3, .slice (some ⟨w.heap.size + 1 + 1, 0, none⟩) 3 3, .slice (some ⟨w.heap.size + 1 + 1 + 1, 0, none⟩) 3 3, .slice (some ⟨w.heap.size + 1 + 1 + 1 + 1, 0, none⟩) 3 3, .slice none 0 0, .slice none 0 0])).run Tryz.prog
    ((((((w.alloc (.cells #[.int .i64 0, .int .i64 0, .slice none 0 0, .slice none 0 0, .slice none 0 0, .slice none 0 0, .slice none 0 0, .slice none 0 0] 114)).alloc (.cells #[.int .i64 28, .int .i64 34, .int .i64 39] 3)).alloc (.cells #[.int .i64 14, .int .i64 18, .int .i64 41] 3)).alloc (.cells #[.int .i64 1, .int .i64 8, .int .i64 7] 3)).alloc (.cells #[.int .i64 19, .int .i64 61, .int .i64 6] 3)).alloc
      (.cells #[.int .i64 0, .int .i64 0, .slice none 0 0, .slice none 0 0, .slice none 0 0, .slice none 0 0, .slice none 0 0, .slice none 0 0] 114)) = .ok () W2 ∧ Blk W2 w.heap.size zeroH 114 ∧ (∃ cs, cs.length = 8 ∧ Blk W2 (w.heap.size + 1 + 1 + 1 + 1 + 1) cs 114) ∧ Below w.heap.size w W2 := by
  obtain ⟨Wa, hWa⟩ : ∃ Wa, (((((w.alloc (.cells zeroH.toArray 114)).alloc (.cells #[.int .i64 28, .int .i64 34, .int .i64 39] 3)).alloc (.cells #[.int .i64 14, .int .i64 18, .int .i64 41] 3)).alloc (.cells #[.int .i64 1, .int .i64 8, .int .i64 7] 3)).alloc (.cells #[.int .i64 19, .int .i64 61, .int .i64 6] 3)) = Wa := ⟨_, rfl⟩
  have hz : Wa.heap.size = w.heap.size + 1 + 1 + 1 + 1 + 1 := by rw [← hWa]; simp
  have b0 : Blk Wa w.heap.size zeroH 114 := by rw [← hWa]; exact ((((Blk.new w zeroH _).alloc _).alloc _).alloc _).alloc _
  have hb : Below w.heap.size w Wa := by rw [← hWa]; exact (((((Below.refl _ _).alloc (Nat.le_refl _) _).alloc (by simp) _).alloc (by simp; omega) _).alloc (by simp; omega) _).alloc (by simp; omega) _
  have b1 := Blk.new Wa zeroH 114
  obtain ⟨s1, s2⟩ := store_H b1 rfl (vs := cellsH 64 80 (w.heap.size + 1) (w.heap.size + 1 + 1) (w.heap.size + 1 + 1 + 1) (w.heap.size + 1 + 1 + 1 + 1) none 0 0 none 0 0) rfl (cellsH_one _ _ _ _ _ _ _ _ _ _ _ _)
  have hch : Chg [] Wa ((Wa.alloc (.cells zeroH.toArray 114)).setCells Wa.heap.size 0 (cellsH 64 80 (w.heap.size + 1) (w.heap.size + 1 + 1) (w.heap.size + 1 + 1 + 1) (w.heap.size + 1 + 1 + 1 + 1) none 0 0 none 0 0)) := ((Chg.refl _ _).alloc _).setCells _ (.inr (Nat.le_refl _))
  have hb2 := hch.below (by simp)
  obtain ⟨W2, hW2⟩ : ∃ W2, (Wa.alloc (.cells zeroH.toArray 114)).setCells Wa.heap.size 0 (cellsH 64 80 (w.heap.size + 1) (w.heap.size + 1 + 1) (w.heap.size + 1 + 1 + 1) (w.heap.size + 1 + 1 + 1 + 1) none 0 0 none 0 0) = W2 := ⟨_, rfl⟩
  rw [hW2] at s1 s2 hb2
  rw [hz] at s1 s2
  clear hW2 hch b1 hz
  refine ⟨W2, ?_, b0.below hb2, ⟨_, rfl, s2⟩, hb.trans (hb2.mono hb.size)⟩
  rw [← hWa] at s1
  exact s1
theorem of_second (w : World) (g : Nat) (cs : List Value) (hn : cs.length = 8) (hB : Blk w g cs 114) : ∃ W2, (storeH (.pointer (some ⟨g, 0, none⟩)) (.agg #[.int .i64 32, .int .i64 64, .slice (some ⟨w.heap.size, 0, none⟩) 3 3, .slice (some ⟨w.heap.size + 1, 0, none⟩) 3 3, .slice (some ⟨w.heap.size + 1 + 1, 0, none⟩) 3 3, .slice (some ⟨w.heap.size + 1 + 1 + 1, 0, none⟩) 3 3, .slice none 0 0, .slice none 0 0])).run Tryz.prog
    ((((w.alloc (.cells #[.int .i64 2, .int .i64 13, .int .i64 22] 3)).alloc (.cells #[.int .i64 6, .int .i64 11, .int .i64 25] 3)).alloc (.cells #[.int .i64 7, .int .i64 18, .int .i64 3] 3)).alloc (.cells #[.int .i64 17, .int .i64 19, .int .i64 10] 3)) = .ok () W2 ∧
    Blk W2 g (cellsH 32 64 w.heap.size (w.heap.size + 1) (w.heap.size + 1 + 1) (w.heap.size + 1 + 1 + 1) none 0 0 none 0 0) 114 ∧ Chg [g] w W2 ∧
    Blk W2 w.heap.size (iv [2, 13, 22]) 3 ∧ Blk W2 (w.heap.size + 1) (iv [6, 11, 25]) 3 ∧ Blk W2 (w.heap.size + 1 + 1) (iv [7, 18, 3]) 3 ∧ Blk W2 (w.heap.size + 1 + 1 + 1) (iv [17, 19, 10]) 3 := by
  obtain ⟨Wa, hWa⟩ : ∃ Wa, ((((w.alloc (.cells (iv [2, 13, 22]).toArray 3)).alloc (.cells (iv [6, 11, 25]).toArray 3)).alloc (.cells (iv [7, 18, 3]).toArray 3)).alloc (.cells (iv [17, 19, 10]).toArray 3)) = Wa := ⟨_, rfl⟩
  have hg := hB.lt
  have hz : w.heap.size ≤ Wa.heap.size := by rw [← hWa]; simp; omega
  have a1 : Blk Wa w.heap.size (iv [2, 13, 22]) 3 := by rw [← hWa]; exact (((Blk.new w _ _).alloc _).alloc _).alloc _
  have a2 : Blk Wa (w.heap.size + 1) (iv [6, 11, 25]) 3 := by
    have := Blk.new (w.alloc (.cells (iv [2, 13, 22]).toArray 3)) (iv [6, 11, 25]) 3
    rw [← hWa]
    simpa using (this.alloc _).alloc _
  have a3 : Blk Wa (w.heap.size + 1 + 1) (iv [7, 18, 3]) 3 := by
    have := Blk.new ((w.alloc (.cells (iv [2, 13, 22]).toArray 3)).alloc (.cells (iv [6, 11, 25]).toArray 3)) (iv [7, 18, 3]) 3
    rw [← hWa]
    simpa using this.alloc _
  have a4 : Blk Wa (w.heap.size + 1 + 1 + 1) (iv [17, 19, 10]) 3 := by
    have := Blk.new (((w.alloc (.cells (iv [2, 13, 22]).toArray 3)).alloc (.cells (iv [6, 11, 25]).toArray 3)).alloc (.cells (iv [7, 18, 3]).toArray 3)) (iv [17, 19, 10]) 3
    rw [← hWa]
    simpa using this
  have hB1 : Blk Wa g cs 114 := by rw [← hWa]; exact (((hB.alloc _).alloc _).alloc _).alloc _
  have hc1 : Chg [g] w Wa := by rw [← hWa]; exact ((((Chg.refl _ _).alloc _).alloc _).alloc _).alloc _
  obtain ⟨s1, s2⟩ := store_H hB1 hn (vs := cellsH 32 64 w.heap.size (w.heap.size + 1) (w.heap.size + 1 + 1) (w.heap.size + 1 + 1 + 1) none 0 0 none 0 0) rfl (cellsH_one _ _ _ _ _ _ _ _ _ _ _ _)
  have hch : Chg [g] Wa (Wa.setCells g 0 (cellsH 32 64 w.heap.size (w.heap.size + 1) (w.heap.size + 1 + 1) (w.heap.size + 1 + 1 + 1) none 0 0 none 0 0)) := (Chg.refl _ _).setCells _ (.inl (by simp))
  obtain ⟨W2, hW2⟩ : ∃ W2, Wa.setCells g 0 (cellsH 32 64 w.heap.size (w.heap.size + 1) (w.heap.size + 1 + 1) (w.heap.size + 1 + 1 + 1) none 0 0 none 0 0) = W2 := ⟨_, rfl⟩
  rw [hW2] at s1 s2 hch
  clear hW2
  refine ⟨W2, ?_, s2, hc1.and hch, a1.chg hch (by simp; omega), a2.chg hch (by simp; omega), a3.chg hch (by simp; omega), a4.chg hch (by simp; omega)⟩
  rw [← hWa] at s1
  exact s1
theorem chg_below {S : List Nat} {a w w' : World} (h : Chg S a w) (k : Below a.heap.size w w') : Chg S a w' := ⟨k.os.trans h.os, k.tape.trans h.tape, k.output.trans h.output, Nat.le_trans h.size k.size, fun i hi hn => (k.block i hi).trans (h.block i hi hn)⟩
theorem cellsH_32 (A B C D : Nat) (K : Option Addr) (nK cK : Nat) (F : Option Addr) (nF cF : Nat) : H32 (cellsH 32 64 A B C D K nK cK F nF cF) := ⟨rfl, rfl, rfl, cellsH_one _ _ _ _ _ _ _ _ _ _ _ _⟩
theorem blk_grown {w w' : World} {g : Nat} {cs : List Value} {t : TypeId} (h : Blk w g cs t) {row : Option Nat} (hg : w.grownBy w' row) (hne : row ≠ some g) : Blk w' g cs t := by
  unfold Blk
  rw [hg.block g h.lt (fun e => hne e.symm)]
  exact h
set_option maxRecDepth 100000 in
set_option maxHeartbeats 4000000 in
theorem rof_any (w : World) : Calls Tryz.prog 77 #[.int .i64 32] w fun e w' => ∃ hc A B C D K cK F cF, e = .returned (.agg hc.toArray) ∧ HIn w' hc A 3 B 3 C 3 D 3 K cK F cF ∧ Below w.heap.size w w' := by
  obtain ⟨i1, hi1, hy0, hy1, hy2⟩ := info_parts infoW
  go_enter Tryz.func77, Tryz.ntmps77
  obtain ⟨W2, hst1, hr2, ⟨cs2, hn2, hB2⟩, hb2⟩ := of_first w
  obtain ⟨W4, hst2, hB4, hch4, a1, a2, a3, a4⟩ := of_second W2 _ cs2 hn2 hB2
  go_wp2_with fail
  refine (rprimes_any _).mono ?_
  rintro e w5 ⟨Ap, cp, rfl, hp, hb5⟩
  clear hst1 hst2
  have hgw : w.heap.size < w.heap.size + 1 + 1 + 1 + 1 + 1 := by omega
  generalize w.heap.size + 1 + 1 + 1 + 1 + 1 = gh at *
  have hgl := hB4.lt
  have hB5 := hB4.below hb5
  have c1 := a1.below hb5
  have c2 := a2.below hb5
  have c3 := a3.below hb5
  have c4 := a4.below hb5
  have hgl5 := hB5.lt
  have hs2 : W2.heap.size ≤ W4.heap.size := hch4.size
  have hg2 := hB2.lt
  have hr5 : Blk w5 w.heap.size zeroH 114 := (hr2.chg hch4 (by simp; omega)).below hb5
  have hcw : Chg [gh] w w5 := ((Chg.of_below hb2).trans (S' := [gh]) hch4 (fun s hs => .inl hs)).and_below hb5
  generalize W2.heap.size = sA at *
  obtain ⟨gp, op, rfl, hgp, hpc⟩ := vs_lit hp (by omega)
  have hpl := hp.len
  have hne : gp ≠ gh := by
    rintro rfl
    have h0 := hpc 0 _ (iv_at _ (by omega))
    rw [ints_at] at h0
    have h1 := (hB5.cell (op + 0)).symm.trans h0
    rw [show (Sha.pr 408).getD 0 0 = 2 by decide +kernel] at h1
    have hop : op + 0 < 8 := (List.getElem?_eq_some_iff.1 h1).1
    have hcase : op + 0 = 0 ∨ op + 0 = 1 ∨ op + 0 = 2 ∨ op + 0 = 3 ∨ op + 0 = 4 ∨ op + 0 = 5 ∨ op + 0 = 6 ∨ op + 0 = 7 := by omega
    rcases hcase with h | h | h | h | h | h | h | h <;> rw [h] at h1 <;> simp [cellsH] at h1
  have HPL := Lib.hid hpl
  have HPC := Lib.hid hpc
  have hgp0 : gp ∉ [gh] := by simpa using hne
  clear hp hpc hpl
  go_wp2_with fail
  go_loopw [5] (fun i wx => ∃ (t : Nat) (Ak : Option Addr) (ck : Nat), t ≤ 64 ∧ i = .int .i64 (t : Int) ∧ t ≤ ck ∧ Chg [gh] w5 wx ∧ Blk wx gh (cellsH 32 64 sA (sA + 1) (sA + 1 + 1) (sA + 1 + 1 + 1) Ak t ck none 0 0) 114 ∧ wx.ownsRow w5.heap.size 151 1 (.slice Ak t ck) t (wv (Sha.tops 3 t))) (fun i _ => 64 - (intOf i).toNat)
  case atStart => exact ⟨0, none, 0, by omega, rfl, by omega, Chg.refl _ _, hB5, World.ownsRow_nil _ _ _ _⟩
  case round =>
    obtain ⟨t, Ak, ck, ht, rfl, htc, hch, hBh, hown⟩ := hrel
    have k1 : wr.cell? ⟨gh, 1, none⟩ = some (.int .i64 64) := hBh.cell 1
    by_cases hlt : t < 64
    · have hpt : wr.cell? ⟨gp, op + t, none⟩ = some (.int .i64 ((Sha.pr 408).getD t 0 : Nat)) := by
        rw [hch.cell (p := ⟨gp, op + t, none⟩) hgp hgp0]
        have := HPC.out t _ (iv_at _ (by rw [HPL.out]; omega))
        rwa [ints_at] at this
      have HS := Lib.hid (show Sha.tops 3 (t + 1) = Sha.tops 3 t ++ [Sha.root (((Sha.pr 408).getD t 0 : Nat) : Int) 3 / 4294967296] from rfl)
      generalize (Sha.pr 408).getD t 0 = pp at *
      have hrt := Sha.root_lt (pp : Int) 3
      have HRT := Lib.hid (rroot3_any (pp : Int))
      have hH32 : H32 (cellsH 32 64 sA (sA + 1) (sA + 1 + 1) (sA + 1 + 1 + 1) Ak t ck none 0 0) := cellsH_32 _ _ _ _ _ _ _ _ _ _
      have HH32 := Lib.hid hH32
      have HTOP := Lib.hid (rtop_any (cellsH 32 64 sA (sA + 1) (sA + 1 + 1) (sA + 1 + 1 + 1) Ak t ck none 0 0) hH32 (Sha.root (pp : Int) 3) hrt)
      generalize Sha.root (pp : Int) 3 = rt at *
      obtain ⟨X, hX⟩ : ∃ X, rt / 4294967296 = X := ⟨_, rfl⟩
      rw [hX] at HS HTOP
      have f1 : ∀ p, (Batch.grew wr p).cell? ⟨gh, 6, none⟩ = some (.slice Ak t ck) := fun p => (Batch.grew_cell hBh.lt p).trans (hBh.cell 6)
      have fld : ∀ p, (loadH (.pointer (some ⟨gh, 0, none⟩))).run Tryz.prog (Batch.grew wr p) = .ok (.agg (cellsH 32 64 sA (sA + 1) (sA + 1 + 1) (sA + 1 + 1 + 1) Ak t ck none 0 0).toArray) (Batch.grew wr p) := fun p => load_H (hBh.below (Batch.grew_below wr p)) rfl
      have f2 : ∀ p, (Batch.grew wr p).cell? ⟨gp, op + t, none⟩ = some (.int .i64 (pp : Int)) := fun p => (Batch.grew_cell (Nat.lt_of_lt_of_le hgp hch.size) p).trans hpt
      have i0 : (0 : Int) ≤ (t : Int) := by omega
      have i2 : (t : Int) < 80 := by omega
      generalize hCS : (cellsH 32 64 sA (sA + 1) (sA + 1 + 1) (sA + 1 + 1 + 1) Ak t ck none 0 0).toArray = CS at *
      have HCS := Lib.hid hCS
      have h63 : t + 1 ≤ maxLen := by unfold maxLen; omega
      clear hCS hpt hX hrt hH32
      go_wp2_with fail
      refine Batch.wp_region_mix [0, 1, 2, 3, 4, 5, 6, 7, 8] [(9, fun v w' => ∃ g, v = .slice (some ⟨g, 0, none⟩) 1 1 ∧ Blk w' g (wv [X]) 151)] [10, 11, 12] (by kernel_rfl) (by kernel_rfl) (by
        intro x hx
        simp only [List.mem_cons, List.not_mem_nil, or_false] at hx
        subst hx
        exact Batch.stable_gr fun v w w' hb ⟨g, e, h⟩ => ⟨g, e, h.below hb⟩) ?_
      simp only [Batch.pick, List.getD_cons_zero, List.getD_cons_succ]
      repeat (go_big_quiet_step (first | (go_at_call 126; exact Batch.calls_grew (HRT.out _)) | (go_at_call 125; exact Batch.calls_grew (HTOP.out _))))
      refine wpQuiet_nil ?_
      refine ⟨_, rfl, rfl, ?_, ?_⟩
      · intro w1 hw1
        go_simp
        exact ⟨Batch.GR.of ((Below.refl _ _).alloc (Nat.le_refl _) _), w1.heap.size, rfl, Blk.new w1 (wv [X]) _⟩
      · rintro v w6 hw6 ⟨_, gn, rfl, hBn⟩
        have hb6 := hw6.below
        have hch6 := hch.and_below hb6
        have hBh6 := hBh.below hb6
        have hown6 := below_own hown hb6
        have hrd : Vs w6 w6.heap.size 1 (some ⟨gn, 0, none⟩) 1 (wv [X]) := Ws.of_blk hBn
        have hB1 : w5.heap.size ≤ w6.heap.size := hch6.size
        clear f1 f2 fld hch hBh hown hBn hw6 hb6
        go_wp2_with (at_builtin; go_must (refine wpList_append w6 rfl (.tmp 27) (.tmp 35) 112 rfl w5.heap.size 151 i1 (.int .u64 0) 1 8 Tryz.underlying112 hi1 hy0 hy1 hy2 rfl (by omega) _ _ _ rfl hown6 w6.heap.size _ 1 _ _ rfl hrd (wv_one _) h63 (by omega) hB1 ?_))
        intro A' c' w7 hown' g1' g2' hgr
        have hbel : Below w5.heap.size w6 w7 := below_grown (Below.refl _ _) hgr hB1 hown6
        have hch7 := chg_below hch6 hbel
        have hBh7 := blk_grown hBh6 hgr (fun e => by have := (hown6.lt gh e).1; omega)
        rw [← wv_append, ← HS.out] at hown'
        have q6 : w7.cell? ⟨gh, 6, none⟩ = some (.slice Ak t ck) := hBh7.cell 6
        have q6f : w7.frozen? ⟨gh, 6, none⟩ = false := hBh7.froz 6
        have hBh8 := hBh7.set 6 (.slice A' (t + 1) c')
        have hch8 := hch7.setCell (p := ⟨gh, 6, none⟩) (.inl (by simp)) (.slice A' (t + 1) c')
        have hown8 := ownsRow_setCell_below hown' (a := ⟨gh, 6, none⟩) (by exact hgl5) (.slice A' (t + 1) c')
        have HR8 := Lib.hid (show Blk (w7.setCell ⟨gh, 6, none⟩ (.slice A' (t + 1) c')) gh (cellsH 32 64 sA (sA + 1) (sA + 1 + 1) (sA + 1 + 1 + 1) A' (t + 1) c' none 0 0) 114 from hBh8)
        clear hown6 hgr hbel hch6 hch7 hBh6 hBh7 hrd hown' hBh8
        go_wp2
        go_roundw
        case rel => exact ⟨t + 1, A', c', by omega, by go_num, g1', hch8, HR8.out, hown8⟩
        case measure => simp [intOf]; omega
    · have hte : t = 64 := by omega
      have hown' : wr.ownsRow w5.heap.size 151 1 (.slice Ak 64 ck) 64 (wv (Sha.tops 3 64)) := by rw [hte] at hown; exact hown
      have hBh' : Blk wr gh (cellsH 32 64 sA (sA + 1) (sA + 1 + 1) (sA + 1 + 1 + 1) Ak 64 ck none 0 0) 114 := by rw [hte] at hBh; exact hBh
      have htge : 64 ≤ t := by omega
      have htc' : 64 ≤ ck := by omega
      have hdec : decide (t < 64) = false := by simp; omega
      obtain ⟨wK, hwK⟩ : ∃ wK, wK = wr := ⟨_, rfl⟩
      subst hwK
      have hgl6 := hBh'.lt
      have hz6 := hch.size
      have hK6 : Ws wK Ak 64 (Sha.tops 3 64) := Ws.of_own hown'
      have hownK := hown'
      have htcK := htc'
      have hKg : ∀ a, Ak = some a → a.block ∉ [gh] := fun a ha => by
        obtain ⟨g, e, h1, _⟩ := own_some hown' (by omega)
        rw [ha] at e
        injection e with e
        rw [e]
        simp
        omega
      clear hte ht htc hown hBh hlt
      go_wp2_with fail
      clear htge hdec
      go_loopw [6] (fun i wx => ∃ (t : Nat) (Af : Option Addr) (cf : Nat), t ≤ 8 ∧ i = .int .i64 (t : Int) ∧ t ≤ cf ∧ Chg [gh] wK wx ∧ Blk wx gh (cellsH 32 64 sA (sA + 1) (sA + 1 + 1) (sA + 1 + 1 + 1) Ak 64 ck Af t cf) 114 ∧ wx.ownsRow wK.heap.size 151 1 (.slice Af t cf) t (wv (Sha.tops 2 t))) (fun i _ => 8 - (intOf i).toNat)
      case atStart => exact ⟨0, none, 0, by omega, rfl, by omega, Chg.refl _ _, hBh', World.ownsRow_nil _ _ _ _⟩
      case round =>
        clear hown' hBh' htc'
        have hch5 := hch
        clear hch
        obtain ⟨t, Af, cf, ht, rfl, htc, hch, hBh, hown⟩ := hrel
        by_cases hlt : t < 8
        · have hpt : wr.cell? ⟨gp, op + t, none⟩ = some (.int .i64 ((Sha.pr 408).getD t 0 : Nat)) := by
            rw [(hch5.and hch).cell (p := ⟨gp, op + t, none⟩) hgp hgp0]
            have := HPC.out t _ (iv_at _ (by rw [HPL.out]; omega))
            rwa [ints_at] at this
          have HS := Lib.hid (show Sha.tops 2 (t + 1) = Sha.tops 2 t ++ [Sha.root (((Sha.pr 408).getD t 0 : Nat) : Int) 2 / 4294967296] from rfl)
          generalize (Sha.pr 408).getD t 0 = pp at *
          have hrt := Sha.root_lt (pp : Int) 2
          have HRT := Lib.hid (rroot2_any (pp : Int))
          have hH32 : H32 (cellsH 32 64 sA (sA + 1) (sA + 1 + 1) (sA + 1 + 1 + 1) Ak 64 ck Af t cf) := cellsH_32 _ _ _ _ _ _ _ _ _ _
          have HH32 := Lib.hid hH32
          have HTOP := Lib.hid (rtop_any (cellsH 32 64 sA (sA + 1) (sA + 1 + 1) (sA + 1 + 1 + 1) Ak 64 ck Af t cf) hH32 (Sha.root (pp : Int) 2) hrt)
          generalize Sha.root (pp : Int) 2 = rt at *
          obtain ⟨X, hX⟩ : ∃ X, rt / 4294967296 = X := ⟨_, rfl⟩
          rw [hX] at HS HTOP
          have f1 : ∀ p, (Batch.grew wr p).cell? ⟨gh, 7, none⟩ = some (.slice Af t cf) := fun p => (Batch.grew_cell hBh.lt p).trans (hBh.cell 7)
          have fld : ∀ p, (loadH (.pointer (some ⟨gh, 0, none⟩))).run Tryz.prog (Batch.grew wr p) = .ok (.agg (cellsH 32 64 sA (sA + 1) (sA + 1 + 1) (sA + 1 + 1 + 1) Ak 64 ck Af t cf).toArray) (Batch.grew wr p) := fun p => load_H (hBh.below (Batch.grew_below wr p)) rfl
          have f2 : ∀ p, (Batch.grew wr p).cell? ⟨gp, op + t, none⟩ = some (.int .i64 (pp : Int)) := fun p => (Batch.grew_cell (Nat.lt_of_lt_of_le hgp (hch5.and hch).size) p).trans hpt
          have i0 : (0 : Int) ≤ (t : Int) := by omega
          have i2 : (t : Int) < 80 := by omega
          generalize hCS : (cellsH 32 64 sA (sA + 1) (sA + 1 + 1) (sA + 1 + 1 + 1) Ak 64 ck Af t cf).toArray = CS at *
          have HCS := Lib.hid hCS
          have h63 : t + 1 ≤ maxLen := by unfold maxLen; omega
          clear hCS hpt hX hrt hH32
          go_wp2_with fail
          refine Batch.wp_region_mix [0, 1, 2, 3, 4, 5, 6, 7, 8] [(9, fun v w' => ∃ g, v = .slice (some ⟨g, 0, none⟩) 1 1 ∧ Blk w' g (wv [X]) 151)] [10, 11, 12] (by kernel_rfl) (by kernel_rfl) (by
            intro x hx
            simp only [List.mem_cons, List.not_mem_nil, or_false] at hx
            subst hx
            exact Batch.stable_gr fun v w w' hb ⟨g, e, h⟩ => ⟨g, e, h.below hb⟩) ?_
          simp only [Batch.pick, List.getD_cons_zero, List.getD_cons_succ]
          repeat (go_big_quiet_step (first | (go_at_call 126; exact Batch.calls_grew (HRT.out _)) | (go_at_call 125; exact Batch.calls_grew (HTOP.out _))))
          refine wpQuiet_nil ?_
          refine ⟨_, rfl, rfl, ?_, ?_⟩
          · intro w1 hw1
            go_simp
            exact ⟨Batch.GR.of ((Below.refl _ _).alloc (Nat.le_refl _) _), w1.heap.size, rfl, Blk.new w1 (wv [X]) _⟩
          · rintro v w6 hw6 ⟨_, gn, rfl, hBn⟩
            have hb6 := hw6.below
            have hch6 := hch.and_below hb6
            have hBh6 := hBh.below hb6
            have hown6 := below_own hown hb6
            have hrd : Vs w6 w6.heap.size 1 (some ⟨gn, 0, none⟩) 1 (wv [X]) := Ws.of_blk hBn
            have hB1 : wK.heap.size ≤ w6.heap.size := hch6.size
            clear f1 f2 fld hch hBh hown hBn hw6 hb6
            go_wp2_with (at_builtin; go_must (refine wpList_append w6 rfl (.tmp 43) (.tmp 51) 112 rfl wK.heap.size 151 i1 (.int .u64 0) 1 8 Tryz.underlying112 hi1 hy0 hy1 hy2 rfl (by omega) _ _ _ rfl hown6 w6.heap.size _ 1 _ _ rfl hrd (wv_one _) h63 (by omega) hB1 ?_))
            intro A' c' w7 hown' g1' g2' hgr
            have hbel : Below wK.heap.size w6 w7 := below_grown (Below.refl _ _) hgr hB1 hown6
            have hch7 := chg_below hch6 hbel
            have hBh7 := blk_grown hBh6 hgr (fun e => by have := (hown6.lt gh e).1; omega)
            rw [← wv_append, ← HS.out] at hown'
            have q6 : w7.cell? ⟨gh, 7, none⟩ = some (.slice Af t cf) := hBh7.cell 7
            have q6f : w7.frozen? ⟨gh, 7, none⟩ = false := hBh7.froz 7
            have hBh8 := hBh7.set 7 (.slice A' (t + 1) c')
            have hch8 := hch7.setCell (p := ⟨gh, 7, none⟩) (.inl (by simp)) (.slice A' (t + 1) c')
            have hown8 := ownsRow_setCell_below hown' (a := ⟨gh, 7, none⟩) (by exact hgl6) (.slice A' (t + 1) c')
            have HR8 := Lib.hid (show Blk (w7.setCell ⟨gh, 7, none⟩ (.slice A' (t + 1) c')) gh (cellsH 32 64 sA (sA + 1) (sA + 1 + 1) (sA + 1 + 1 + 1) Ak 64 ck A' (t + 1) c') 114 from hBh8)
            clear hown6 hgr hbel hch6 hch7 hBh6 hBh7 hrd hown' hBh8
            go_wp2
            go_roundw
            case rel => exact ⟨t + 1, A', c', by omega, by go_num, g1', hch8, HR8.out, hown8⟩
            case measure => simp [intOf]; omega
        · have hte : t = 8 := by omega
          have hown' : wr.ownsRow wK.heap.size 151 1 (.slice Af 8 cf) 8 (wv (Sha.tops 2 8)) := by rw [hte] at hown; exact hown
          have hBh' : Blk wr gh (cellsH 32 64 sA (sA + 1) (sA + 1 + 1) (sA + 1 + 1 + 1) Ak 64 ck Af 8 cf) 114 := by rw [hte] at hBh; exact hBh
          have htc' : 8 ≤ cf := by omega
          have htge : 8 ≤ t := by omega
          have hall : Chg [gh] w5 wr := hch5.and hch
          have hr6 : Blk wr w.heap.size zeroH 114 := hr5.chg hall (by simp; omega)
          obtain ⟨s1, s2⟩ := store_H hr6 rfl (vs := (cellsH 32 64 sA (sA + 1) (sA + 1 + 1) (sA + 1 + 1 + 1) Ak 64 ck Af 8 cf)) rfl (cellsH_one _ _ _ _ _ _ _ _ _ _ _ _)
          have hld := load_H hBh' rfl
          obtain ⟨wf, hwf⟩ : ∃ wf, wr.setCells w.heap.size 0 (cellsH 32 64 sA (sA + 1) (sA + 1 + 1) (sA + 1 + 1 + 1) Ak 64 ck Af 8 cf) = wf := ⟨_, rfl⟩
          have hcf : Chg [w.heap.size] wr wf := by rw [← hwf]; exact (Chg.refl _ _).setCells _ (.inl (by simp))
          rw [hwf] at s1 s2
          have hlt : w.heap.size < wr.heap.size := hr6.lt
          have hsa : sA + 1 + 1 + 1 < wr.heap.size := Nat.lt_of_lt_of_le c4.lt hall.size
          have hsw : w.heap.size < sA := by omega
          have d1 := (c1.chg hall (by simp; omega)).chg hcf (by simp; omega)
          have d2 := (c2.chg hall (by simp; omega)).chg hcf (by simp; omega)
          have d3 := (c3.chg hall (by simp; omega)).chg hcf (by simp; omega)
          have d4 := (c4.chg hall (by simp; omega)).chg hcf (by simp; omega)
          have hKf : Ws wf Ak 64 (Sha.tops 3 64) := by
            refine vs_chg (vs_chg hK6 hch hKg) hcf (fun a ha => ?_)
            obtain ⟨g, e, h1, _⟩ := own_some hownK (by omega)
            rw [ha] at e
            injection e with e
            rw [e]
            simp
            omega
          have hFf : Ws wf Af 8 (Sha.tops 2 8) := by
            refine vs_chg (Ws.of_own hown') hcf (fun a ha => ?_)
            obtain ⟨g, e, h1, _⟩ := own_some hown' (by omega)
            rw [ha] at e
            injection e with e
            rw [e]
            simp
            have := hch5.size
            omega
          have HIN := Lib.hid (show HIn wf (cellsH 32 64 sA (sA + 1) (sA + 1 + 1) (sA + 1 + 1 + 1) Ak 64 ck Af 8 cf) (some ⟨sA, 0, none⟩) 3 (some ⟨sA + 1, 0, none⟩) 3 (some ⟨sA + 1 + 1, 0, none⟩) 3 (some ⟨sA + 1 + 1 + 1, 0, none⟩) 3 Ak ck Af cf from ⟨rfl, Is.of_blk d1, Is.of_blk d2, Is.of_blk d3, Is.of_blk d4, hKf, hFf, htcK, htc'⟩)
          have hH : Has wf w.heap.size 0 8 := blk_has s2 rfl
          have hA : arr wf w.heap.size 0 8 = (cellsH 32 64 sA (sA + 1) (sA + 1 + 1) (sA + 1 + 1 + 1) Ak 64 ck Af 8 cf).toArray := blk_arr s2 rfl
          have hbl : Below w.heap.size w wf := ((hcw.and hall).trans (S' := [w.heap.size]) hcf (by simp)).below' (Nat.le_refl _) (by simp; omega)
          clear hwf
          go_wp2
          refine bodyPost_ret (results_arr (P := Tryz.prog) Tryz.results77 _ _ w.heap.size 0 8 _ rfl Tryz.underlying114 rfl size_H hH) rfl ?_
          exact ⟨_, _, _, _, _, _, _, _, _, by rw [hA], HIN.out, hbl⟩
end Go.Proofs.YtmbpnkacggngkaaGreatDoor
