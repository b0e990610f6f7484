/- JsonK, JsonV, JsonT, JsonX, B64Spec, JwkSolo, JwkMask, JwkEnc, ShaKL, JwkText, ShaTurn, PshWord, PshRow (put together by bundle.py: only what is needed). -/
import Derived.Laws.BitsLemmas
import Derived.Test.YtmbpnkacggngkaaGreatDoorLB1
import Derived.Test.YtmbpnkacggngkaaGreatDoorLB2
import Derived.Test.YtmbpnkacggngkaaGreatDoorLB4
import Derived.Test.YtmbpnkacggngkaaGreatDoorLB12
section
namespace Go.Proofs.YtmbpnkacggngkaaGreatDoor
open Go.RowKit Mem Led
def sumW (wt : JsV → Nat) (L : List JsV) : Nat := (L.map wt).sum
theorem sumW_step (wt : JsV → Nat) {L : List JsV} {j : Nat} (h : j < L.length) : sumW wt (L.take (j + 1)) = sumW wt (L.take j) + wt L[j] := by
 unfold sumW
 rw [List.take_add_one, List.getElem?_eq_getElem h, Option.toList_some, List.map_append, List.sum_append]
 simp
theorem sumW_le (wt : JsV → Nat) (L : List JsV) (j : Nat) : sumW wt (L.take j) ≤ sumW wt L := by
 have : sumW wt L = sumW wt (L.take j) + sumW wt (L.drop j) := by
  unfold sumW
  rw [← List.sum_append, ← List.map_append, List.take_append_drop]
 omega
theorem store_js {w : World} {g : Nat} {cs vs : List Value} {t : TypeId} (h : Blk w g cs t) (hn : cs.length = 5) (hv : vs.length = 5) (h1 : ∀ v ∈ vs, v.oneCell' = true) :
  (stJs (.pointer (some ⟨g, 0, none⟩)) (.agg vs.toArray)).run Tryz.prog w = .ok () (w.setCells g 0 vs) ∧ Blk (w.setCells g 0 vs) g vs t := by
 have h2 := run_store_arr (P := Tryz.prog) w 197 g 0 5 sizeJs vs.toArray ⟨by simpa using hv, by simpa using h1⟩ (blk_has h hn) (fun j _ => h.froz _)
 have h3 := set_all vs w g 0 cs t h (by omega)
 simp [hv, ← hn] at h3
 exact ⟨h2, h3⟩
theorem jsRow_one (k : JsV) (h1 : k.names.oneCell' = true) (h2 : k.kids.oneCell' = true) : ∀ u ∈ jsRow k, u.oneCell' = true := by
 intro u hu
 simp only [jsRow, List.mem_cons, List.not_mem_nil, or_false] at hu
 rcases hu with rfl | rfl | rfl | rfl | rfl
 ·rfl
 ·rfl
 ·rfl
 ·exact h1
 ·exact h2
theorem ldJs_vs {w : World} {B : Nat} {A : Option Addr} {n : Nat} {L : List JsV} (h : Vs w B 5 A n (rows jsRow L)) {i : Nat} (hi : i < L.length) :
  ∃ b off, A = some ⟨b, off, none⟩ ∧ b < B ∧ ∀ w', Below B w w' → (ldJs (.pointer (some ⟨b, off + i * 5, none⟩))).run Tryz.prog w' = .ok (.agg (jsRow L[i]).toArray) w' := by
 obtain ⟨b, off, h1, h2, h3⟩ := Vs.lit h (by rw [rows_length jsRow_len]; omega)
 refine ⟨b, off, h1, h2, fun w' hbw => load_cells Tryz.underlying197 rfl sizeJs (jsRow_len _) fun j u hj => ?_⟩
 have hj5 : j < 5 := by
  have := (List.getElem?_eq_some_iff.1 hj).1
  rwa [jsRow_len] at this
 have hc := h3 (i * 5 + j) u (by rw [rows_at jsRow_len hi hj5, hj])
 rw [show off + i * 5 + j = off + (i * 5 + j) by omega, hbw.cell (p := ⟨b, off + (i * 5 + j), none⟩) h2]
 exact hc
theorem names_at {w : World} {B : Nat} {A : Option Addr} {n : Nat} {ns : List Txt} (h : Vs w B 1 A n (tv ns)) {i : Nat} (hi : i < ns.length) :
  ∃ b off, A = some ⟨b, off, none⟩ ∧ ∀ w', Below B w w' → w'.cell? ⟨b, off + i, none⟩ = some (.string (str ns[i])) := by
 have hx : (tv ns)[i]? = some (.string (str ns[i])) := by unfold tv; rw [List.getElem?_map, List.getElem?_eq_getElem hi]; rfl
 have hl : 0 < (tv ns).length := by
  have := (List.getElem?_eq_some_iff.1 hx).1
  omega
 obtain ⟨b, off, h1, h2, h3⟩ := Vs.lit h hl
 exact ⟨b, off, h1, fun w' hbw => by rw [hbw.cell (p := ⟨b, off + i, none⟩) h2]; exact h3 i _ hx⟩
set_option maxRecDepth 100000 in
set_option maxHeartbeats 8000000 in
theorem wkids_4 (b n : Nat) (w : World) (A : Option Addr) (nL c : Nat) (L : List JsV) (wt : JsV → Nat) (h : WS b n w) (hL : L.length = nL) (hE : Vs w b 5 A nL (rows jsRow L)) (hone : ∀ k ∈ L, k.names.oneCell' = true ∧ k.kids.oneCell' = true) (hn : n + 2 + sumW wt L + 1 * L.length ≤ 2000) (hl : nL ≤ 100)
  (hk : ∀ k ∈ L, ∀ W' n', KeepB b w W' → WS b n' W' → n' + wt k ≤ 2000 → Calls Tryz.prog 200 #[.pointer (some ⟨b, 0, none⟩), .agg (jsRow k).toArray] W' fun e w'' => e = .returned (.tuple #[]) ∧ ∃ n'', n'' ≤ n' + wt k ∧ WS b n'' w'' ∧ KeepB b W' w'') :
  Calls Tryz.prog 237 #[.pointer (some ⟨b, 0, none⟩), .agg #[.int .i64 4, .int .i64 0, .string ⟨#[]⟩, .slice none 0 0, .slice A nL c]] w fun e w' => e = .returned (.tuple #[]) ∧ ∃ n', 0 < n' ∧ n' ≤ n + 2 + sumW wt L + 1 * L.length ∧ WS b n' w' ∧ KeepB b w w' := by
 have hs0 : str [] = ⟨#[]⟩ := rfl
 have hbl := h.1
 obtain ⟨W, hW⟩ : ∃ W, w.alloc (.cells (jsRow ⟨4, 0, [], .slice none 0 0, .slice A nL c⟩).toArray 197) = W := ⟨_, rfl⟩
 have B0 : Blk W w.heap.size (jsRow ⟨4, 0, [], .slice none 0 0, .slice A nL c⟩) 197 := by rw [← hW]; exact Blk.new _ _ _
 have hbw : Below w.heap.size w W := by rw [← hW]; exact (Below.refl _ _).alloc (Nat.le_refl _) _
 have hKW : KeepB b w W := KeepB.of_below hbw (Nat.le_of_lt hbl)
 have hWS := h.below hbw
 have HW : Hid (w.alloc (.cells #[.int .i64 4, .int .i64 0, .string ⟨#[]⟩, .slice none 0 0, .slice A nL c] 197) = W) := Lib.hid hW
 clear hW
 have k0 : W.cell? ⟨w.heap.size, 0, none⟩ = some (.int .i64 4) := B0.cell 0
 have hopn : Hid (∀ p, Calls Tryz.prog 227 #[.pointer (some ⟨b, 0, none⟩), .int .u8 91] (Batch.grew W p) fun e w' => e = .returned .nilIface ∧ WS b (n + 1) w' ∧ KeepB b (Batch.grew W p) w') := Lib.hid fun p => wbyte_any b n 91 _ (hWS.below (Batch.grew_below W p)) (by omega)
 have hix : ∀ W', (Instr.index 9 (.string ⟨#[91, 93]⟩) (.int .i64 0)).run Tryz.prog W' = .ok (.int .u8 91) W' := fun W' => rfl
 have hix2 : ∀ W', (Instr.index 9 (.string ⟨#[91, 93]⟩) (.int .i64 1)).run Tryz.prog W' = .ok (.int .u8 93) W' := fun W' => rfl
 go_enter Tryz.func237, Tryz.ntmps237
 go_upto_region 1 with fail
 rw [HW.out]
 clear HW
 go_upto_region 4 with fail
 refine Batch.wp_region_grew_tail 5 (by kernel_rfl) (by kernel_rfl) ?_
 simp only [List.take_succ_cons, List.take_zero, List.drop_succ_cons, List.drop_zero]
 repeat (go_big_quiet_step (fail))
 refine wpQuiet_nil ?_
 rintro _ ⟨p, rfl⟩
 have hop1 := hopn.out p
 have hKp : KeepB b w (Batch.grew W p) := hKW.trans (KeepB.of_below (Batch.grew_below W p) (Nat.le_trans (Nat.le_of_lt hbl) hbw.size))
 have B1 := B0.below (Batch.grew_below W p)
 clear hopn hKW hWS k0 hbw
 generalize Batch.grew W p = w1 at *
 go_wp2_with fail
 refine hop1.mono ?_
 rintro e w2 ⟨rfl, hw2, hk2⟩
 have hK2 := hKp.trans hk2
 have B2 := hk2.2 _ _ _ B1 (by decide) (by omega)
 have k4 : w2.cell? ⟨w.heap.size, 4, none⟩ = some (.slice A nL c) := B2.cell 4
 clear hop1 hKp hk2 B0 B1
 go_wp2_with fail
 (try rw [Batch.Qn_normal])
 (try go_wp2_with fail)
 go_loopw [5, 6, 19] (fun _ _ i wx => ∃ (j m : Nat), j ≤ nL ∧ i = .int .i64 (j : Int) ∧ Hid (m ≤ n + 1 + sumW wt (L.take j) + 1 * j) ∧ WS b m wx ∧ KeepB b w wx ∧ Blk wx w.heap.size (jsRow ⟨4, 0, [], .slice none 0 0, .slice A nL c⟩) 197) (fun _ _ i _ => nL - (intOf i).toNat)
 case atStart => exact ⟨0, n + 1, by omega, rfl, Lib.hid (by simp [sumW]), hw2, hK2, B2⟩
 case round =>
  clear hw2 hK2 B2 k4
  obtain ⟨j, m, hj, rfl, HM, hw, hK, hB⟩ := hrel
  obtain ⟨wx, hwx⟩ : ∃ wx, wx = wr := ⟨_, rfl⟩
  subst hwx
  by_cases hlt : j < nL
  ·have hjL : j < L.length := by omega
   obtain ⟨bk, ok, rfl, hbk, hld⟩ := ldJs_vs hE hjL
   have hld1 := hld wx hK.1
   have hst1 := sumW_step wt hjL
   have hst2 := sumW_le wt L (j + 1)
   have HST := Lib.hid hst1
   have hmb : m + wt L[j] + 1 ≤ 2000 := by
    have := HM.out
    have h3 : 1 * (j + 1) ≤ 1 * L.length := Nat.mul_le_mul_left _ hjL
    omega
   have hval := hk L[j] (List.getElem_mem hjL)
   obtain ⟨ho1, ho2⟩ := hone L[j] (List.getElem_mem hjL)
   have HVAL := Lib.hid hval
   clear hval hst1 hst2 hld
   generalize L[j] = kj at *
   have bn := Blk.new wx (jsRow ⟨0, 0, [], .slice none 0 0, .slice none 0 0⟩) 197
   obtain ⟨hst, BK⟩ := store_js bn (vs := jsRow kj) rfl rfl (jsRow_one kj ho1 ho2)
   obtain ⟨w3, hw3⟩ : ∃ w3, (wx.alloc (.cells (jsRow ⟨0, 0, [], .slice none 0 0, .slice none 0 0⟩).toArray 197)).setCells wx.heap.size 0 (jsRow kj) = w3 := ⟨_, rfl⟩
   have hcn : Chg [] wx w3 := by rw [← hw3]; exact ((Chg.refl _ _).alloc _).setCells _ (.inr (Nat.le_refl _))
   rw [hw3] at hst BK
   have hb3 := hcn.below (fun _ h => by cases h)
   have hbx : b ≤ wx.heap.size := Nat.le_of_lt hw.1
   have hk3 : KeepB b wx w3 := KeepB.of_below hb3 hbx
   have hw3' := hw.below hb3
   have hB3 := hB.below hb3
   have hgk : wx.heap.size ≠ b := by have := hw.1; omega
   have hst' : (stJs (.pointer (some ⟨wx.heap.size, 0, none⟩)) (.agg (jsRow kj).toArray)).run Tryz.prog (wx.alloc (.cells #[.int .i64 0, .int .i64 0, .string ⟨#[]⟩, .slice none 0 0, .slice none 0 0] 197)) = .ok () w3 := hst
   have hjz : (j : Int) < (nL : Int) := by omega
   clear hst bn hcn hw3 hb3 hw
   obtain ⟨RK, hRK⟩ : ∃ RK, Hid ((jsRow kj).toArray = RK) := ⟨_, Lib.hid rfl⟩
   rw [hRK.out] at hst' hld1
   have hKK3 := hK.trans hk3
   clear hK hk3 hB
   by_cases hj0 : j = 0
   ·have hz0 : decide ((0 : Int) < (j : Int)) = false := by simp; omega
    have hz1 : (j : Int) ≤ 0 := by omega
    clear hj0
    have e0 : w3.cell? ⟨w.heap.size, 0, none⟩ = some (.int .i64 4) := hB3.cell 0
    have hlk := ldJs_blk BK
    rw [hRK.out] at hlk
    have hv := HVAL.out w3 _ hKK3 hw3' (by omega)
    rw [hRK.out] at hv
    have HB9 := Lib.hid (show m + wt kj ≤ n + 1 + sumW wt (L.take (j + 1)) + 1 * (j + 1) by have := HM.out; have := HST.out; omega)
    clear hw3'
    go_wp2_with fail
    refine hv.mono ?_
    rintro e w7 ⟨rfl, n7, hn7, hw7, hk7⟩
    have hB7 := hk7.2 _ _ _ hB3 (by decide) (by omega)
    have hKK7 := hKK3.trans hk7
    have HN7 := Lib.hid (Nat.le_trans hn7 HB9.out)
    clear hv hk7 hlk hn7 hB3 BK hKK3
    (try clear hst' hld1)
    go_wp2_with fail
    go_roundw
    case rel => exact ⟨j + 1, n7, by omega, by go_num, HN7, hw7, hKK7, hB7⟩
    case measure => simp [intOf]; omega
   ·have hz0 : decide ((0 : Int) < (j : Int)) = true := by simp; omega
    have hz1 : (0 : Int) < (j : Int) := by omega
    clear hj0
    have hcom := wbyte_any b m 44 w3 hw3' (by omega)
    go_wp2_with fail
    refine hcom.mono ?_
    rintro e w4 ⟨rfl, hw4, hk4⟩
    have hB3 := hk4.2 _ _ _ hB3 (by decide) (by omega)
    have BK := hk4.2 _ _ _ BK (by decide) hgk
    have hKK3 := hKK3.trans hk4
    have hw3' := hw4
    clear hcom hst' hld1 hk4 hw4
    have e0 : w4.cell? ⟨w.heap.size, 0, none⟩ = some (.int .i64 4) := hB3.cell 0
    have hlk := ldJs_blk BK
    rw [hRK.out] at hlk
    have hv := HVAL.out w4 _ hKK3 hw3' (by omega)
    rw [hRK.out] at hv
    have HB9 := Lib.hid (show m + 1 + wt kj ≤ n + 1 + sumW wt (L.take (j + 1)) + 1 * (j + 1) by have := HM.out; have := HST.out; omega)
    clear hw3'
    go_wp2_with fail
    refine hv.mono ?_
    rintro e w7 ⟨rfl, n7, hn7, hw7, hk7⟩
    have hB7 := hk7.2 _ _ _ hB3 (by decide) (by omega)
    have hKK7 := hKK3.trans hk7
    have HN7 := Lib.hid (Nat.le_trans hn7 HB9.out)
    clear hv hk7 hlk hn7 hB3 BK hKK3
    (try clear hst' hld1)
    go_wp2_with fail
    go_roundw
    case rel => exact ⟨j + 1, n7, by omega, by go_num, HN7, hw7, hKK7, hB7⟩
    case measure => simp [intOf]; omega
  ·have hje : j = nL := by omega
   have hjge : (nL : Int) ≤ (j : Int) := by omega
   have HMF := Lib.hid (show m + 1 ≤ n + 2 + sumW wt L + 1 * L.length by
    have := HM.out
    rw [hje, ← hL, List.take_length] at this
    omega)
   have hcl : Hid (∀ p, Calls Tryz.prog 227 #[.pointer (some ⟨b, 0, none⟩), .int .u8 93] (Batch.grew wx p) fun e w' => e = .returned .nilIface ∧ WS b (m + 1) w' ∧ KeepB b (Batch.grew wx p) w') := Lib.hid fun p => wbyte_any b m 93 _ (hw.below (Batch.grew_below wx p)) (by have := HMF.out; omega)
   have hbx : b ≤ wx.heap.size := Nat.le_of_lt hw.1
   clear hje
   go_upto_region 15 with fail
   refine Batch.wp_region_grew_tail 5 (by kernel_rfl) (by kernel_rfl) ?_
   simp only [List.take_succ_cons, List.take_zero, List.drop_succ_cons, List.drop_zero]
   repeat (go_big_quiet_step (fail))
   refine wpQuiet_nil ?_
   rintro _ ⟨p, rfl⟩
   have hcl1 := hcl.out p
   have hKp := hK.trans (KeepB.of_below (Batch.grew_below wx p) hbx)
   clear hcl hK hB hw
   generalize Batch.grew wx p = wy at *
   go_wp2_with fail
   refine hcl1.mono ?_
   rintro e w9 ⟨rfl, hw9, hk9⟩
   go_wp2
   (try rw [Batch.Qn_normal])
   (try go_wp2)
   go_end0
   exact ⟨rfl, m + 1, Nat.succ_pos _, HMF.out, hw9, hKp.trans hk9⟩
set_option maxRecDepth 100000 in
set_option maxHeartbeats 8000000 in
theorem wkids_5 (b n : Nat) (w : World) (A : Option Addr) (nL c : Nat) (L : List JsV) (wt : JsV → Nat) (A' : Option Addr) (c' : Nat) (ns : List Txt) (hT : Vs w b 1 A' nL (tv ns)) (hna : ∀ x ∈ ns, Clear x ∧ x.length ≤ 6) (h : WS b n w) (hL : L.length = nL) (hE : Vs w b 5 A nL (rows jsRow L)) (hone : ∀ k ∈ L, k.names.oneCell' = true ∧ k.kids.oneCell' = true) (hn : n + 2 + sumW wt L + 10 * L.length ≤ 2000) (hl : nL ≤ 100)
  (hk : ∀ k ∈ L, ∀ W' n', KeepB b w W' → WS b n' W' → n' + wt k ≤ 2000 → Calls Tryz.prog 200 #[.pointer (some ⟨b, 0, none⟩), .agg (jsRow k).toArray] W' fun e w'' => e = .returned (.tuple #[]) ∧ ∃ n'', n'' ≤ n' + wt k ∧ WS b n'' w'' ∧ KeepB b W' w'') :
  Calls Tryz.prog 237 #[.pointer (some ⟨b, 0, none⟩), .agg #[.int .i64 5, .int .i64 0, .string ⟨#[]⟩, .slice A' nL c', .slice A nL c]] w fun e w' => e = .returned (.tuple #[]) ∧ ∃ n', 0 < n' ∧ n' ≤ n + 2 + sumW wt L + 10 * L.length ∧ WS b n' w' ∧ KeepB b w w' := by
 have hs0 : str [] = ⟨#[]⟩ := rfl
 have hbl := h.1
 obtain ⟨W, hW⟩ : ∃ W, w.alloc (.cells (jsRow ⟨5, 0, [], .slice A' nL c', .slice A nL c⟩).toArray 197) = W := ⟨_, rfl⟩
 have B0 : Blk W w.heap.size (jsRow ⟨5, 0, [], .slice A' nL c', .slice A nL c⟩) 197 := by rw [← hW]; exact Blk.new _ _ _
 have hbw : Below w.heap.size w W := by rw [← hW]; exact (Below.refl _ _).alloc (Nat.le_refl _) _
 have hKW : KeepB b w W := KeepB.of_below hbw (Nat.le_of_lt hbl)
 have hWS := h.below hbw
 have HW : Hid (w.alloc (.cells #[.int .i64 5, .int .i64 0, .string ⟨#[]⟩, .slice A' nL c', .slice A nL c] 197) = W) := Lib.hid hW
 clear hW
 have k0 : W.cell? ⟨w.heap.size, 0, none⟩ = some (.int .i64 5) := B0.cell 0
 have hopn : Hid (∀ p, Calls Tryz.prog 227 #[.pointer (some ⟨b, 0, none⟩), .int .u8 123] (Batch.grew W p) fun e w' => e = .returned .nilIface ∧ WS b (n + 1) w' ∧ KeepB b (Batch.grew W p) w') := Lib.hid fun p => wbyte_any b n 123 _ (hWS.below (Batch.grew_below W p)) (by omega)
 have hix : ∀ W', (Instr.index 9 (.string ⟨#[123, 125]⟩) (.int .i64 0)).run Tryz.prog W' = .ok (.int .u8 123) W' := fun W' => rfl
 have hix2 : ∀ W', (Instr.index 9 (.string ⟨#[123, 125]⟩) (.int .i64 1)).run Tryz.prog W' = .ok (.int .u8 125) W' := fun W' => rfl
 go_enter Tryz.func237, Tryz.ntmps237
 go_upto_region 1 with fail
 rw [HW.out]
 clear HW
 go_upto_region 4 with fail
 refine Batch.wp_region_grew_tail 5 (by kernel_rfl) (by kernel_rfl) ?_
 simp only [List.take_succ_cons, List.take_zero, List.drop_succ_cons, List.drop_zero]
 repeat (go_big_quiet_step (fail))
 refine wpQuiet_nil ?_
 rintro _ ⟨p, rfl⟩
 have hop1 := hopn.out p
 have hKp : KeepB b w (Batch.grew W p) := hKW.trans (KeepB.of_below (Batch.grew_below W p) (Nat.le_trans (Nat.le_of_lt hbl) hbw.size))
 have B1 := B0.below (Batch.grew_below W p)
 clear hopn hKW hWS k0 hbw
 generalize Batch.grew W p = w1 at *
 go_wp2_with fail
 refine hop1.mono ?_
 rintro e w2 ⟨rfl, hw2, hk2⟩
 have hK2 := hKp.trans hk2
 have B2 := hk2.2 _ _ _ B1 (by decide) (by omega)
 have k4 : w2.cell? ⟨w.heap.size, 4, none⟩ = some (.slice A nL c) := B2.cell 4
 clear hop1 hKp hk2 B0 B1
 go_wp2_with fail
 (try rw [Batch.Qn_normal])
 (try go_wp2_with fail)
 go_loopw [5, 6, 19] (fun _ _ i wx => ∃ (j m : Nat), j ≤ nL ∧ i = .int .i64 (j : Int) ∧ Hid (m ≤ n + 1 + sumW wt (L.take j) + 10 * j) ∧ WS b m wx ∧ KeepB b w wx ∧ Blk wx w.heap.size (jsRow ⟨5, 0, [], .slice A' nL c', .slice A nL c⟩) 197) (fun _ _ i _ => nL - (intOf i).toNat)
 case atStart => exact ⟨0, n + 1, by omega, rfl, Lib.hid (by simp [sumW]), hw2, hK2, B2⟩
 case round =>
  clear hw2 hK2 B2 k4
  obtain ⟨j, m, hj, rfl, HM, hw, hK, hB⟩ := hrel
  obtain ⟨wx, hwx⟩ : ∃ wx, wx = wr := ⟨_, rfl⟩
  subst hwx
  by_cases hlt : j < nL
  ·have hjL : j < L.length := by omega
   obtain ⟨bk, ok, rfl, hbk, hld⟩ := ldJs_vs hE hjL
   have hld1 := hld wx hK.1
   have hst1 := sumW_step wt hjL
   have hst2 := sumW_le wt L (j + 1)
   have HST := Lib.hid hst1
   have hmb : m + wt L[j] + 10 ≤ 2000 := by
    have := HM.out
    have h3 : 10 * (j + 1) ≤ 10 * L.length := Nat.mul_le_mul_left _ hjL
    omega
   have hval := hk L[j] (List.getElem_mem hjL)
   obtain ⟨ho1, ho2⟩ := hone L[j] (List.getElem_mem hjL)
   have HVAL := Lib.hid hval
   clear hval hst1 hst2 hld
   generalize L[j] = kj at *
   have bn := Blk.new wx (jsRow ⟨0, 0, [], .slice none 0 0, .slice none 0 0⟩) 197
   obtain ⟨hst, BK⟩ := store_js bn (vs := jsRow kj) rfl rfl (jsRow_one kj ho1 ho2)
   obtain ⟨w3, hw3⟩ : ∃ w3, (wx.alloc (.cells (jsRow ⟨0, 0, [], .slice none 0 0, .slice none 0 0⟩).toArray 197)).setCells wx.heap.size 0 (jsRow kj) = w3 := ⟨_, rfl⟩
   have hcn : Chg [] wx w3 := by rw [← hw3]; exact ((Chg.refl _ _).alloc _).setCells _ (.inr (Nat.le_refl _))
   rw [hw3] at hst BK
   have hb3 := hcn.below (fun _ h => by cases h)
   have hbx : b ≤ wx.heap.size := Nat.le_of_lt hw.1
   have hk3 : KeepB b wx w3 := KeepB.of_below hb3 hbx
   have hw3' := hw.below hb3
   have hB3 := hB.below hb3
   have hgk : wx.heap.size ≠ b := by have := hw.1; omega
   have hst' : (stJs (.pointer (some ⟨wx.heap.size, 0, none⟩)) (.agg (jsRow kj).toArray)).run Tryz.prog (wx.alloc (.cells #[.int .i64 0, .int .i64 0, .string ⟨#[]⟩, .slice none 0 0, .slice none 0 0] 197)) = .ok () w3 := hst
   have hjz : (j : Int) < (nL : Int) := by omega
   clear hst bn hcn hw3 hb3 hw
   obtain ⟨RK, hRK⟩ : ∃ RK, Hid ((jsRow kj).toArray = RK) := ⟨_, Lib.hid rfl⟩
   rw [hRK.out] at hst' hld1
   have hKK3 := hK.trans hk3
   clear hK hk3 hB
   by_cases hj0 : j = 0
   ·have hz0 : decide ((0 : Int) < (j : Int)) = false := by simp; omega
    have hz1 : (j : Int) ≤ 0 := by omega
    clear hj0
    obtain ⟨bs', of', hA', hcs⟩ := names_at hT (i := j) (by have := hT.len; rw [tv_length] at this; omega)
    subst hA'
    have hnsl : j < ns.length := by have := hT.len; rw [tv_length] at this; omega
    obtain ⟨hc1, hc2⟩ := hna _ (List.getElem_mem hnsl)
    have e0 : w3.cell? ⟨w.heap.size, 0, none⟩ = some (.int .i64 5) := hB3.cell 0
    have e3 : w3.cell? ⟨w.heap.size, 3, none⟩ = some (.slice (some ⟨bs', of', none⟩) nL c') := hB3.cell 3
    have ec := hcs w3 hKK3.1
    generalize ns[j] = nj at *
    have htx := wtext_any b (m) nj w3 hw3' (by omega) (by omega) hc1
    go_wp2_with fail
    refine htx.mono ?_
    rintro e w5 ⟨rfl, hw5, hk5⟩
    have hB3 := hk5.2 _ _ _ hB3 (by decide) (by omega)
    have BK := hk5.2 _ _ _ BK (by decide) hgk
    have hKK3 := hKK3.trans hk5
    have hco := wbyte_any b (m + nj.length + 2) 58 w5 hw5 (by omega)
    clear htx e0 e3 ec hk5 hw3'
    (try clear hst' hld1)
    go_wp2_with fail
    refine hco.mono ?_
    rintro e w6 ⟨rfl, hw6, hk6⟩
    have hB3 := hk6.2 _ _ _ hB3 (by decide) (by omega)
    have BK := hk6.2 _ _ _ BK (by decide) hgk
    have hKK3 := hKK3.trans hk6
    have hlk := ldJs_blk BK
    rw [hRK.out] at hlk
    have hv := HVAL.out w6 _ hKK3 hw6 (by omega)
    rw [hRK.out] at hv
    have HB9 := Lib.hid (show m + nj.length + 2 + 1 + wt kj ≤ n + 1 + sumW wt (L.take (j + 1)) + 10 * (j + 1) by have := HM.out; have := HST.out; omega)
    clear hco hk6 hw6 hw5
    go_wp2_with fail
    refine hv.mono ?_
    rintro e w7 ⟨rfl, n7, hn7, hw7, hk7⟩
    have hB7 := hk7.2 _ _ _ hB3 (by decide) (by omega)
    have hKK7 := hKK3.trans hk7
    have HN7 := Lib.hid (Nat.le_trans hn7 HB9.out)
    clear hv hk7 hlk hn7 hB3 BK hKK3
    (try clear hst' hld1)
    go_wp2_with fail
    go_roundw
    case rel => exact ⟨j + 1, n7, by omega, by go_num, HN7, hw7, hKK7, hB7⟩
    case measure => simp [intOf]; omega
   ·have hz0 : decide ((0 : Int) < (j : Int)) = true := by simp; omega
    have hz1 : (0 : Int) < (j : Int) := by omega
    clear hj0
    have hcom := wbyte_any b m 44 w3 hw3' (by omega)
    go_wp2_with fail
    refine hcom.mono ?_
    rintro e w4 ⟨rfl, hw4, hk4⟩
    have hB3 := hk4.2 _ _ _ hB3 (by decide) (by omega)
    have BK := hk4.2 _ _ _ BK (by decide) hgk
    have hKK3 := hKK3.trans hk4
    have hw3' := hw4
    clear hcom hst' hld1 hk4 hw4
    obtain ⟨bs', of', hA', hcs⟩ := names_at hT (i := j) (by have := hT.len; rw [tv_length] at this; omega)
    subst hA'
    have hnsl : j < ns.length := by have := hT.len; rw [tv_length] at this; omega
    obtain ⟨hc1, hc2⟩ := hna _ (List.getElem_mem hnsl)
    have e0 : w4.cell? ⟨w.heap.size, 0, none⟩ = some (.int .i64 5) := hB3.cell 0
    have e3 : w4.cell? ⟨w.heap.size, 3, none⟩ = some (.slice (some ⟨bs', of', none⟩) nL c') := hB3.cell 3
    have ec := hcs w4 hKK3.1
    generalize ns[j] = nj at *
    have htx := wtext_any b (m + 1) nj w4 hw3' (by omega) (by omega) hc1
    go_wp2_with fail
    refine htx.mono ?_
    rintro e w5 ⟨rfl, hw5, hk5⟩
    have hB3 := hk5.2 _ _ _ hB3 (by decide) (by omega)
    have BK := hk5.2 _ _ _ BK (by decide) hgk
    have hKK3 := hKK3.trans hk5
    have hco := wbyte_any b (m + 1 + nj.length + 2) 58 w5 hw5 (by omega)
    clear htx e0 e3 ec hk5 hw3'
    (try clear hst' hld1)
    go_wp2_with fail
    refine hco.mono ?_
    rintro e w6 ⟨rfl, hw6, hk6⟩
    have hB3 := hk6.2 _ _ _ hB3 (by decide) (by omega)
    have BK := hk6.2 _ _ _ BK (by decide) hgk
    have hKK3 := hKK3.trans hk6
    have hlk := ldJs_blk BK
    rw [hRK.out] at hlk
    have hv := HVAL.out w6 _ hKK3 hw6 (by omega)
    rw [hRK.out] at hv
    have HB9 := Lib.hid (show m + 1 + nj.length + 2 + 1 + wt kj ≤ n + 1 + sumW wt (L.take (j + 1)) + 10 * (j + 1) by have := HM.out; have := HST.out; omega)
    clear hco hk6 hw6 hw5
    go_wp2_with fail
    refine hv.mono ?_
    rintro e w7 ⟨rfl, n7, hn7, hw7, hk7⟩
    have hB7 := hk7.2 _ _ _ hB3 (by decide) (by omega)
    have hKK7 := hKK3.trans hk7
    have HN7 := Lib.hid (Nat.le_trans hn7 HB9.out)
    clear hv hk7 hlk hn7 hB3 BK hKK3
    (try clear hst' hld1)
    go_wp2_with fail
    go_roundw
    case rel => exact ⟨j + 1, n7, by omega, by go_num, HN7, hw7, hKK7, hB7⟩
    case measure => simp [intOf]; omega
  ·have hje : j = nL := by omega
   have hjge : (nL : Int) ≤ (j : Int) := by omega
   have HMF := Lib.hid (show m + 1 ≤ n + 2 + sumW wt L + 10 * L.length by
    have := HM.out
    rw [hje, ← hL, List.take_length] at this
    omega)
   have hcl : Hid (∀ p, Calls Tryz.prog 227 #[.pointer (some ⟨b, 0, none⟩), .int .u8 125] (Batch.grew wx p) fun e w' => e = .returned .nilIface ∧ WS b (m + 1) w' ∧ KeepB b (Batch.grew wx p) w') := Lib.hid fun p => wbyte_any b m 125 _ (hw.below (Batch.grew_below wx p)) (by have := HMF.out; omega)
   have hbx : b ≤ wx.heap.size := Nat.le_of_lt hw.1
   clear hje
   go_upto_region 15 with fail
   refine Batch.wp_region_grew_tail 5 (by kernel_rfl) (by kernel_rfl) ?_
   simp only [List.take_succ_cons, List.take_zero, List.drop_succ_cons, List.drop_zero]
   repeat (go_big_quiet_step (fail))
   refine wpQuiet_nil ?_
   rintro _ ⟨p, rfl⟩
   have hcl1 := hcl.out p
   have hKp := hK.trans (KeepB.of_below (Batch.grew_below wx p) hbx)
   clear hcl hK hB hw
   generalize Batch.grew wx p = wy at *
   go_wp2_with fail
   refine hcl1.mono ?_
   rintro e w9 ⟨rfl, hw9, hk9⟩
   go_wp2
   (try rw [Batch.Qn_normal])
   (try go_wp2)
   go_end0
   exact ⟨rfl, m + 1, Nat.succ_pos _, HMF.out, hw9, hKp.trans hk9⟩
end Go.Proofs.YtmbpnkacggngkaaGreatDoor
end
section
namespace Go.Proofs.YtmbpnkacggngkaaGreatDoor
open Go.RowKit Mem Led
set_option maxRecDepth 100000 in
set_option maxHeartbeats 4000000 in
theorem wval_2 (b n : Nat) (w : World) (h : WS b n w) (m : Nat) (hm : m < 10 ^ 16) (hn : n + 16 ≤ 2000) :
  Calls Tryz.prog 200 #[.pointer (some ⟨b, 0, none⟩), .agg (jsRow ⟨2, (m : Int), [], .slice none 0 0, .slice none 0 0⟩).toArray] w fun e w' => e = .returned (.tuple #[]) ∧ ∃ n', n' ≤ n + 16 ∧ WS b n' w' ∧ KeepB b w w' := by
 have hbl := h.1
 obtain ⟨W, hW⟩ : ∃ W, w.alloc (.cells (jsRow ⟨2, (m : Int), [], .slice none 0 0, .slice none 0 0⟩).toArray 197) = W := ⟨_, rfl⟩
 have B0 : Blk W w.heap.size (jsRow ⟨2, (m : Int), [], .slice none 0 0, .slice none 0 0⟩) 197 := by rw [← hW]; exact Blk.new _ _ _
 have hbw : Below w.heap.size w W := by rw [← hW]; exact (Below.refl _ _).alloc (Nat.le_refl _) _
 have hKW : KeepB b w W := KeepB.of_below hbw (Nat.le_of_lt hbl)
 have hWS := h.below hbw
 have HW : Hid (w.alloc (.cells #[.int .i64 2, .int .i64 (m : Int), .string ⟨#[]⟩, .slice none 0 0, .slice none 0 0] 197) = W) := Lib.hid hW
 clear hW
 have k0 : W.cell? ⟨w.heap.size, 0, none⟩ = some (.int .i64 2) := B0.cell 0
 have k1 : W.cell? ⟨w.heap.size, 1, none⟩ = some (.int .i64 (m : Int)) := B0.cell 1
 have k2 : W.cell? ⟨w.heap.size, 2, none⟩ = some (.string ⟨#[]⟩) := B0.cell 2
 have hld : (ldJs (.pointer (some ⟨w.heap.size, 0, none⟩))).run Tryz.prog W = .ok (.agg #[.int .i64 2, .int .i64 (m : Int), .string ⟨#[]⟩, .slice none 0 0, .slice none 0 0]) W := ldJs_blk B0
 have hlen := wlen_any b n W hWS
 have d0 : decide (2000 < (n : Int)) = false := by simp; omega
 have d1 : (n : Int) ≤ 2000 := by omega
 have hx := wnum_any b n m W hWS (by omega) hm
 show Calls Tryz.prog 200 #[.pointer (some ⟨b, 0, none⟩), .agg #[.int .i64 2, .int .i64 (m : Int), .string ⟨#[]⟩, .slice none 0 0, .slice none 0 0]] w _
 go_enter Tryz.func200, Tryz.ntmps200
 go_upto_region 1 with fail
 rw [HW.out]
 clear HW
 go_wp2_with fail
 refine hlen.mono ?_
 rintro e w1 ⟨rfl, hww⟩
 have := hww.symm
 subst this
 clear hlen
 go_wp2_with fail
 refine hx.mono ?_
 rintro e w2 ⟨rfl, n2, hn2, hw2, hk2⟩
 go_wp2
 go_end0
 exact ⟨rfl, n2, hn2, hw2, hKW.trans hk2⟩
set_option maxRecDepth 100000 in
set_option maxHeartbeats 4000000 in
theorem wval_3 (b n : Nat) (w : World) (h : WS b n w) (t : Txt) (ht : Clear t) (hl : t.length ≤ 1000) (hn : n + (t.length + 2) ≤ 2000) :
  Calls Tryz.prog 200 #[.pointer (some ⟨b, 0, none⟩), .agg (jsRow ⟨3, 0, t, .slice none 0 0, .slice none 0 0⟩).toArray] w fun e w' => e = .returned (.tuple #[]) ∧ ∃ n', n' ≤ n + (t.length + 2) ∧ WS b n' w' ∧ KeepB b w w' := by
 have hbl := h.1
 obtain ⟨W, hW⟩ : ∃ W, w.alloc (.cells (jsRow ⟨3, 0, t, .slice none 0 0, .slice none 0 0⟩).toArray 197) = W := ⟨_, rfl⟩
 have B0 : Blk W w.heap.size (jsRow ⟨3, 0, t, .slice none 0 0, .slice none 0 0⟩) 197 := by rw [← hW]; exact Blk.new _ _ _
 have hbw : Below w.heap.size w W := by rw [← hW]; exact (Below.refl _ _).alloc (Nat.le_refl _) _
 have hKW : KeepB b w W := KeepB.of_below hbw (Nat.le_of_lt hbl)
 have hWS := h.below hbw
 have HW : Hid (w.alloc (.cells #[.int .i64 3, .int .i64 0, .string (str t), .slice none 0 0, .slice none 0 0] 197) = W) := Lib.hid hW
 clear hW
 have k0 : W.cell? ⟨w.heap.size, 0, none⟩ = some (.int .i64 3) := B0.cell 0
 have k1 : W.cell? ⟨w.heap.size, 1, none⟩ = some (.int .i64 0) := B0.cell 1
 have k2 : W.cell? ⟨w.heap.size, 2, none⟩ = some (.string (str t)) := B0.cell 2
 have hld : (ldJs (.pointer (some ⟨w.heap.size, 0, none⟩))).run Tryz.prog W = .ok (.agg #[.int .i64 3, .int .i64 0, .string (str t), .slice none 0 0, .slice none 0 0]) W := ldJs_blk B0
 have hlen := wlen_any b n W hWS
 have d0 : decide (2000 < (n : Int)) = false := by simp; omega
 have d1 : (n : Int) ≤ 2000 := by omega
 have hx := wtext_any b n t W hWS (by omega) hl ht
 show Calls Tryz.prog 200 #[.pointer (some ⟨b, 0, none⟩), .agg #[.int .i64 3, .int .i64 0, .string (str t), .slice none 0 0, .slice none 0 0]] w _
 go_enter Tryz.func200, Tryz.ntmps200
 go_upto_region 1 with fail
 rw [HW.out]
 clear HW
 go_wp2_with fail
 refine hlen.mono ?_
 rintro e w1 ⟨rfl, hww⟩
 have := hww.symm
 subst this
 clear hlen
 go_wp2_with fail
 refine hx.mono ?_
 rintro e w2 ⟨rfl, hw2, hk2⟩
 go_wp2
 go_end0
 exact ⟨rfl, _, by omega, hw2, hKW.trans hk2⟩
set_option maxRecDepth 100000 in
set_option maxHeartbeats 4000000 in
theorem wval_4 (b n : Nat) (w : World) (h : WS b n w) (A : Option Addr) (nL c : Nat) (g : Nat) (hg : n + g ≤ 2000) (hk : ∀ W, KeepB b w W → WS b n W → Calls Tryz.prog 237 #[.pointer (some ⟨b, 0, none⟩), .agg #[.int .i64 4, .int .i64 0, .string ⟨#[]⟩, .slice none 0 0, .slice A nL c]] W fun e w' => e = .returned (.tuple #[]) ∧ ∃ n', 0 < n' ∧ n' ≤ n + g ∧ WS b n' w' ∧ KeepB b W w') :
  Calls Tryz.prog 200 #[.pointer (some ⟨b, 0, none⟩), .agg (jsRow ⟨4, 0, [], .slice none 0 0, .slice A nL c⟩).toArray] w fun e w' => e = .returned (.tuple #[]) ∧ ∃ n', 0 < n' ∧ n' ≤ n + g ∧ WS b n' w' ∧ KeepB b w w' := by
 have hbl := h.1
 obtain ⟨W, hW⟩ : ∃ W, w.alloc (.cells (jsRow ⟨4, 0, [], .slice none 0 0, .slice A nL c⟩).toArray 197) = W := ⟨_, rfl⟩
 have B0 : Blk W w.heap.size (jsRow ⟨4, 0, [], .slice none 0 0, .slice A nL c⟩) 197 := by rw [← hW]; exact Blk.new _ _ _
 have hbw : Below w.heap.size w W := by rw [← hW]; exact (Below.refl _ _).alloc (Nat.le_refl _) _
 have hKW : KeepB b w W := KeepB.of_below hbw (Nat.le_of_lt hbl)
 have hWS := h.below hbw
 have HW : Hid (w.alloc (.cells #[.int .i64 4, .int .i64 0, .string ⟨#[]⟩, .slice none 0 0, .slice A nL c] 197) = W) := Lib.hid hW
 clear hW
 have k0 : W.cell? ⟨w.heap.size, 0, none⟩ = some (.int .i64 4) := B0.cell 0
 have k1 : W.cell? ⟨w.heap.size, 1, none⟩ = some (.int .i64 0) := B0.cell 1
 have k2 : W.cell? ⟨w.heap.size, 2, none⟩ = some (.string ⟨#[]⟩) := B0.cell 2
 have hld : (ldJs (.pointer (some ⟨w.heap.size, 0, none⟩))).run Tryz.prog W = .ok (.agg #[.int .i64 4, .int .i64 0, .string ⟨#[]⟩, .slice none 0 0, .slice A nL c]) W := ldJs_blk B0
 have hlen := wlen_any b n W hWS
 have d0 : decide (2000 < (n : Int)) = false := by simp; omega
 have d1 : (n : Int) ≤ 2000 := by omega
 have hx := hk W hKW hWS
 show Calls Tryz.prog 200 #[.pointer (some ⟨b, 0, none⟩), .agg #[.int .i64 4, .int .i64 0, .string ⟨#[]⟩, .slice none 0 0, .slice A nL c]] w _
 go_enter Tryz.func200, Tryz.ntmps200
 go_upto_region 1 with fail
 rw [HW.out]
 clear HW
 go_wp2_with fail
 refine hlen.mono ?_
 rintro e w1 ⟨rfl, hww⟩
 have := hww.symm
 subst this
 clear hlen
 go_wp2_with fail
 refine hx.mono ?_
 rintro e w2 ⟨rfl, n2, hn0, hn2, hw2, hk2⟩
 go_wp2
 go_end0
 exact ⟨rfl, n2, hn0, hn2, hw2, hKW.trans hk2⟩
set_option maxRecDepth 100000 in
set_option maxHeartbeats 4000000 in
theorem wval_5 (b n : Nat) (w : World) (h : WS b n w) (A : Option Addr) (nL c : Nat) (A' : Option Addr) (c' : Nat) (g : Nat) (hg : n + g ≤ 2000) (hk : ∀ W, KeepB b w W → WS b n W → Calls Tryz.prog 237 #[.pointer (some ⟨b, 0, none⟩), .agg #[.int .i64 5, .int .i64 0, .string ⟨#[]⟩, .slice A' nL c', .slice A nL c]] W fun e w' => e = .returned (.tuple #[]) ∧ ∃ n', 0 < n' ∧ n' ≤ n + g ∧ WS b n' w' ∧ KeepB b W w') :
  Calls Tryz.prog 200 #[.pointer (some ⟨b, 0, none⟩), .agg (jsRow ⟨5, 0, [], .slice A' nL c', .slice A nL c⟩).toArray] w fun e w' => e = .returned (.tuple #[]) ∧ ∃ n', 0 < n' ∧ n' ≤ n + g ∧ WS b n' w' ∧ KeepB b w w' := by
 have hbl := h.1
 obtain ⟨W, hW⟩ : ∃ W, w.alloc (.cells (jsRow ⟨5, 0, [], .slice A' nL c', .slice A nL c⟩).toArray 197) = W := ⟨_, rfl⟩
 have B0 : Blk W w.heap.size (jsRow ⟨5, 0, [], .slice A' nL c', .slice A nL c⟩) 197 := by rw [← hW]; exact Blk.new _ _ _
 have hbw : Below w.heap.size w W := by rw [← hW]; exact (Below.refl _ _).alloc (Nat.le_refl _) _
 have hKW : KeepB b w W := KeepB.of_below hbw (Nat.le_of_lt hbl)
 have hWS := h.below hbw
 have HW : Hid (w.alloc (.cells #[.int .i64 5, .int .i64 0, .string ⟨#[]⟩, .slice A' nL c', .slice A nL c] 197) = W) := Lib.hid hW
 clear hW
 have k0 : W.cell? ⟨w.heap.size, 0, none⟩ = some (.int .i64 5) := B0.cell 0
 have k1 : W.cell? ⟨w.heap.size, 1, none⟩ = some (.int .i64 0) := B0.cell 1
 have k2 : W.cell? ⟨w.heap.size, 2, none⟩ = some (.string ⟨#[]⟩) := B0.cell 2
 have hld : (ldJs (.pointer (some ⟨w.heap.size, 0, none⟩))).run Tryz.prog W = .ok (.agg #[.int .i64 5, .int .i64 0, .string ⟨#[]⟩, .slice A' nL c', .slice A nL c]) W := ldJs_blk B0
 have hlen := wlen_any b n W hWS
 have d0 : decide (2000 < (n : Int)) = false := by simp; omega
 have d1 : (n : Int) ≤ 2000 := by omega
 have hx := hk W hKW hWS
 show Calls Tryz.prog 200 #[.pointer (some ⟨b, 0, none⟩), .agg #[.int .i64 5, .int .i64 0, .string ⟨#[]⟩, .slice A' nL c', .slice A nL c]] w _
 go_enter Tryz.func200, Tryz.ntmps200
 go_upto_region 1 with fail
 rw [HW.out]
 clear HW
 go_wp2_with fail
 refine hlen.mono ?_
 rintro e w1 ⟨rfl, hww⟩
 have := hww.symm
 subst this
 clear hlen
 go_wp2_with fail
 refine hx.mono ?_
 rintro e w2 ⟨rfl, n2, hn0, hn2, hw2, hk2⟩
 go_wp2
 go_end0
 exact ⟨rfl, n2, hn0, hn2, hw2, hKW.trans hk2⟩
end Go.Proofs.YtmbpnkacggngkaaGreatDoor
end
section
namespace Go.Proofs.YtmbpnkacggngkaaGreatDoor
open Go.RowKit Mem Led
theorem sumW_const (c : Nat) : ∀ L : List JsV, sumW (fun _ => c) L = c * L.length
 | [] => rfl
 | x :: L => by
  have := sumW_const c L
  unfold sumW at *
  rw [List.map_cons, List.sum_cons, this, List.length_cons, Nat.mul_succ, Nat.add_comm]
def jText (t : Txt) : JsV := ⟨3, 0, t, .slice none 0 0, .slice none 0 0⟩
def keyNames : List Txt := [[99, 114, 118], [107, 105, 100], [107, 116, 121], [120]]
def bunNames : List Txt := [[100, 111, 109, 97, 105, 110], [107, 101, 121, 115], [110, 117, 109, 98, 101, 114]]
def tEd : Txt := [69, 100, 50, 53, 53, 49, 57]
def tOkp : Txt := [79, 75, 80]
def Fine (t : Txt) : Prop := Asc t ∧ Clear t
def KeyV (B : Nat) (w : World) (v : JsV) : Prop := ∃ (A' A : Option Addr) (c' c : Nat) (kid x : Txt), v = ⟨5, 0, [], .slice A' 4 c', .slice A 4 c⟩ ∧ Fit 4 c' A' ∧ Vs w B 1 A' 4 (tv keyNames) ∧ Vs w B 5 A 4 (rows jsRow [jText tEd, jText kid, jText tOkp, jText x]) ∧ Fine kid ∧ Fine x ∧ kid.length ≤ 60 ∧ x.length ≤ 60
theorem KeyV.mono {B B' : Nat} {w w' : World} {v : JsV} (h : KeyV B w v) (hb : Below B w w') (hB : B ≤ B') : KeyV B' w' v := by
 obtain ⟨A', A, c', c, kid, x, e, hf, h1, h2, h3⟩ := h
 exact ⟨A', A, c', c, kid, x, e, hf, (h1.below hb).mono hB, (h2.below hb).mono hB, h3⟩
theorem fine_ed : Fine tEd := by unfold Fine Asc Clear; decide
theorem fine_okp : Fine tOkp := by unfold Fine Asc Clear; decide
theorem right_text (t : Txt) (ht : Asc t) (d : Nat) (w : World) : Calls Tryz.prog 199 #[.agg (jsRow (jText t)).toArray, .int .i64 (d : Int)] w fun e w' => e = .returned (.bool true) ∧ Below w.heap.size w w' := right_3 w d t ht
theorem right_key (w : World) (v : JsV) (h : KeyV w.heap.size w v) : Calls Tryz.prog 199 #[.agg (jsRow v).toArray, .int .i64 4] w fun e w' => e = .returned (.bool true) ∧ Below w.heap.size w w' := by
 obtain ⟨A', A, c', c, kid, x, rfl, hf, h1, h2, h3, h4, _⟩ := h
 refine right_5 w 4 (by omega) (by omega) A 4 c [jText tEd, jText kid, jText tOkp, jText x] h2 (by omega) A' c' keyNames h1 hf (by unfold Asc; decide) (by decide) (fun k hk W' _ => ?_)
 have key : ∀ t, Asc t → Calls Tryz.prog 199 #[.agg (jsRow (jText t)).toArray, .int .i64 ((4 : Nat) - 1 : Int)] W' fun e w'' => e = .returned (.bool true) ∧ Below W'.heap.size W' w'' := fun t ht => right_text t ht 3 W'
 simp only [List.mem_cons, List.not_mem_nil, or_false] at hk
 rcases hk with rfl | rfl | rfl | rfl
 ·exact key _ fine_ed.1
 ·exact key _ h3.1
 ·exact key _ fine_okp.1
 ·exact key _ h4.1
theorem value_text (b n : Nat) (t : Txt) (w : World) (h : WS b n w) (ht : Clear t) (hn : n + (t.length + 2) ≤ 2000) (hl : t.length ≤ 1000) : Calls Tryz.prog 200 #[.pointer (some ⟨b, 0, none⟩), .agg (jsRow (jText t)).toArray] w fun e w' => e = .returned (.tuple #[]) ∧ ∃ n', n' ≤ n + (t.length + 2) ∧ WS b n' w' ∧ KeepB b w w' := wval_3 b n w h t ht hl hn
theorem value_key (b n : Nat) (v : JsV) (w : World) (h : WS b n w) (hv : KeyV b w v) (hn : n + 200 ≤ 2000) : Calls Tryz.prog 200 #[.pointer (some ⟨b, 0, none⟩), .agg (jsRow v).toArray] w fun e w' => e = .returned (.tuple #[]) ∧ ∃ n', n' ≤ n + 200 ∧ WS b n' w' ∧ KeepB b w w' := by
 obtain ⟨A', A, c', c, kid, x, rfl, hf, h1, h2, h3, h4, h5, h6⟩ := hv
 refine (wval_5 b n w h A 4 c A' c' 200 (by omega) (fun W hK hW => ?_)).mono (fun e w' ⟨h1, n', _, h2⟩ => ⟨h1, n', h2⟩)
 have hsum : sumW (fun k => k.text.length + 2) [jText tEd, jText kid, jText tOkp, jText x] ≤ 150 := by
  simp [sumW, jText, tEd, tOkp]
  omega
 refine (wkids_5 b n W A 4 c [jText tEd, jText kid, jText tOkp, jText x] (fun k => k.text.length + 2) A' c' keyNames (h1.below hK.1) (by unfold keyNames Clear; decide) hW rfl (h2.below hK.1) (fun k hk => ?_) (by simp only [List.length_cons, List.length_nil]; omega) (by omega) (fun k hk W' n' _ hW' hn' => ?_)).mono ?_
 ·simp only [List.mem_cons, List.not_mem_nil, or_false] at hk
  rcases hk with rfl | rfl | rfl | rfl <;> exact ⟨rfl, rfl⟩
 ·have key : ∀ t : Txt, k = jText t → Clear t → t.length ≤ 60 → Calls Tryz.prog 200 #[.pointer (some ⟨b, 0, none⟩), .agg (jsRow k).toArray] W' fun e w'' => e = .returned (.tuple #[]) ∧ ∃ n'', n'' ≤ n' + (k.text.length + 2) ∧ WS b n'' w'' ∧ KeepB b W' w'' := fun t e hc hl => by
   subst e
   exact value_text b n' t W' hW' hc hn' (by omega)
  simp only [List.mem_cons, List.not_mem_nil, or_false] at hk
  rcases hk with rfl | rfl | rfl | rfl
  ·exact key _ rfl fine_ed.2 (by decide)
  ·exact key _ rfl h3.2 h5
  ·exact key _ rfl fine_okp.2 (by decide)
  ·exact key _ rfl h4.2 h6
 ·rintro e w' ⟨he, n', h0, hn', hr⟩
  simp only [List.length_cons, List.length_nil] at hn'
  exact ⟨he, n', h0, by omega, hr⟩
def BunV (B : Nat) (w : World) (v : JsV) : Prop := ∃ (A' A K : Option Addr) (c' c n kc : Nat) (dom : Txt) (num : Nat) (Ks : List JsV), v = ⟨5, 0, [], .slice A' 3 c', .slice A 3 c⟩ ∧ Fit 3 c' A' ∧ Vs w B 1 A' 3 (tv bunNames) ∧ Vs w B 5 A 3 (rows jsRow [jText dom, ⟨4, 0, [], .slice none 0 0, .slice K n kc⟩, ⟨2, (num : Int), [], .slice none 0 0, .slice none 0 0⟩]) ∧ Fine dom ∧ dom.length ≤ 300 ∧ num ≤ 1000000000000000 ∧ n ≤ 8 ∧ Vs w B 5 K n (rows jsRow Ks) ∧ ∀ k ∈ Ks, KeyV B w k
theorem BunV.mono {B B' : Nat} {w w' : World} {v : JsV} (h : BunV B w v) (hb : Below B w w') (hB : B ≤ B') : BunV B' w' v := by
 obtain ⟨A', A, K, c', c, n, kc, dom, num, Ks, e, hf, h1, h2, h3, h4, h5, h6, h7, h8⟩ := h
 exact ⟨A', A, K, c', c, n, kc, dom, num, Ks, e, hf, (h1.below hb).mono hB, (h2.below hb).mono hB, h3, h4, h5, h6, (h7.below hb).mono hB, fun k hk => (h8 k hk).mono hb hB⟩
theorem right_bun (w : World) (v : JsV) (h : BunV w.heap.size w v) : Calls Tryz.prog 199 #[.agg (jsRow v).toArray, .int .i64 6] w fun e w' => e = .returned (.bool true) ∧ Below w.heap.size w w' := by
 obtain ⟨A', A, K, c', c, n, kc, dom, num, Ks, rfl, hf, h1, h2, h3, h4, h5, h6, h7, h8⟩ := h
 refine right_5 w 6 (by omega) (by omega) A 3 c [jText dom, ⟨4, 0, [], .slice none 0 0, .slice K n kc⟩, ⟨2, (num : Int), [], .slice none 0 0, .slice none 0 0⟩] h2 (by omega) A' c' bunNames h1 hf (by unfold Asc; decide) (by decide) (fun k hk W' hb => ?_)
 simp only [List.mem_cons, List.not_mem_nil, or_false] at hk
 rcases hk with rfl | rfl | rfl
 ·exact right_text dom h3.1 5 W'
 ·refine right_4 W' 5 (by omega) (by omega) K n kc Ks (Es.below h7 hb) (by omega) (fun k hk W'' hb' => ?_)
  exact right_key W'' k ((h8 k hk).mono (hb.trans (hb'.mono hb.size)) (Nat.le_trans hb.size hb'.size))
 ·exact right_2 W' 5 (num : Int) (by omega) (by omega)
theorem value_bun (b n : Nat) (v : JsV) (w : World) (h : WS b n w) (hv : BunV b w v) (hn : n ≤ 10) : Calls Tryz.prog 200 #[.pointer (some ⟨b, 0, none⟩), .agg (jsRow v).toArray] w fun e w' => e = .returned (.tuple #[]) ∧ ∃ n', 0 < n' ∧ n' ≤ 2000 ∧ WS b n' w' ∧ KeepB b w w' := by
 obtain ⟨A', A, K, c', c, m, kc, dom, num, Ks, rfl, hf, h1, h2, h3, h4, h5, h6, h7, h8⟩ := hv
 have hlK : Ks.length = m := by
  have := h7.len
  rw [rows_length jsRow_len] at this
  omega
 refine (wval_5 b n w h A 3 c A' c' 1990 (by omega) (fun W hK hW => ?_)).mono ?_
 ·obtain ⟨wt, hwt⟩ : ∃ wt : JsV → Nat, wt = fun k => if k.kind = 4 then 1610 else if k.kind = 2 then 16 else k.text.length + 2 := ⟨_, rfl⟩
  have w1 : wt (jText dom) = dom.length + 2 := by rw [hwt]; rfl
  have w2 : wt ⟨4, 0, [], .slice none 0 0, .slice K m kc⟩ = 1610 := by rw [hwt]; rfl
  have w3 : wt ⟨2, (num : Int), [], .slice none 0 0, .slice none 0 0⟩ = 16 := by rw [hwt]; rfl
  have hsum : sumW wt [jText dom, ⟨4, 0, [], .slice none 0 0, .slice K m kc⟩, ⟨2, (num : Int), [], .slice none 0 0, .slice none 0 0⟩] ≤ 1930 := by
   simp only [sumW, List.map_cons, List.map_nil, List.sum_cons, List.sum_nil, w1, w2, w3]
   omega
  refine (wkids_5 b n W A 3 c [jText dom, ⟨4, 0, [], .slice none 0 0, .slice K m kc⟩, ⟨2, (num : Int), [], .slice none 0 0, .slice none 0 0⟩] wt A' c' bunNames (h1.below hK.1) (by unfold bunNames Clear; decide) hW rfl (h2.below hK.1) (fun k hk => ?_) (by simp only [List.length_cons, List.length_nil]; omega) (by omega) (fun k hk W' n' hK' hW' hn' => ?_)).mono ?_
  ·simp only [List.mem_cons, List.not_mem_nil, or_false] at hk
   rcases hk with rfl | rfl | rfl <;> exact ⟨rfl, rfl⟩
  ·simp only [List.mem_cons, List.not_mem_nil, or_false] at hk
   rcases hk with rfl | rfl | rfl
   ·rw [w1] at hn' ⊢
    exact value_text b n' dom W' hW' h3.2 hn' (by omega)
   ·rw [w2] at hn' ⊢
    refine (wval_4 b n' W' hW' K m kc 1610 hn' (fun W'' hK'' hW'' => ?_)).mono (fun e w' ⟨h1, n', _, h2⟩ => ⟨h1, n', h2⟩)
    have hs2 : sumW (fun _ => 200) Ks = 200 * m := by
     rw [← hlK]
     exact sumW_const 200 Ks
    refine (wkids_4 b n' W'' K m kc Ks (fun _ => 200) hW'' hlK (h7.below ((hK.1.trans hK'.1).trans hK''.1)) (fun k hk => ?_) (by rw [hs2, hlK]; omega) (by omega) (fun k hk W3 n3 hK3 hW3 hn3 => value_key b n3 k W3 hW3 ((h8 k hk).mono (((hK.1.trans hK'.1).trans hK''.1).trans hK3.1) (Nat.le_refl _)) hn3)).mono ?_
    ·obtain ⟨A3, A4, c3, c4, kid, x, rfl, _⟩ := h8 k hk
     exact ⟨rfl, rfl⟩
    ·rintro e w' ⟨he, n4, h0, hn4, hr⟩
     rw [hs2, hlK] at hn4
     exact ⟨he, n4, h0, by omega, hr⟩
   ·rw [w3] at hn' ⊢
    exact wval_2 b n' W' hW' num (by omega) hn'
  ·rintro e w' ⟨he, n', h0, hn', hr⟩
   simp only [List.length_cons, List.length_nil] at hn'
   exact ⟨he, n', h0, by omega, hr⟩
 ·rintro e w' ⟨he, n', h0, hn', hr⟩
  exact ⟨he, n', h0, by omega, hr⟩
end Go.Proofs.YtmbpnkacggngkaaGreatDoor
end
section
namespace Go.Proofs.YtmbpnkacggngkaaGreatDoor
open Go.RowKit Mem Led
theorem ws_new (w : World) : WS w.heap.size 0 (w.alloc (.cells #[.pointer none, .slice none 0 0] 216)) :=
 ⟨by simp, ([] : List Value), rfl, (by intro u hu; cases hu), Lib.fresh_isBuilder _ _ w⟩
set_option maxRecDepth 100000 in
set_option maxHeartbeats 4000000 in
theorem jwrite_any (v : JsV) (w : World) (h : BunV w.heap.size w v) :
  Calls Tryz.prog 178 #[.agg (jsRow v).toArray] w fun e w' => (∃ s, e = .returned (.tuple #[.string s, .int .i64 0])) ∧ Below w.heap.size w w' := by
 obtain ⟨W, hW⟩ : ∃ W, w.alloc (.cells (jsRow v).toArray 197) = W := ⟨_, rfl⟩
 have B0 : Blk W w.heap.size (jsRow v) 197 := by rw [← hW]; exact Blk.new _ _ _
 have hbw : Below w.heap.size w W := by rw [← hW]; exact (Below.refl _ _).alloc (Nat.le_refl _) _
 have hr := right_bun W v (h.mono hbw hbw.size)
 have HV := Lib.hid (fun b n W' (hb : Below w.heap.size w W') (hB : w.heap.size ≤ b) hw hn => value_bun b n v W' hw (h.mono hb hB) hn)
 have hld := ldJs_blk B0
 have HB : Hid (∀ w', Below W.heap.size W w' → Blk w' w.heap.size (jsRow v) 197) := Lib.hid fun w' hb => B0.below hb
 have HL : ∀ w', Blk w' w.heap.size (jsRow v) 197 → (ldJs (.pointer (some ⟨w.heap.size, 0, none⟩))).run Tryz.prog w' = .ok (.agg (jsRow v).toArray) w' := fun w' hb => ldJs_blk hb
 have HL := Lib.hid HL
 clear h
 have hvb := B0
 generalize (jsRow v).toArray = X at *
 go_enter Tryz.func178, Tryz.ntmps178
 go_upto_region 1 with fail
 clear hW
 go_wp2_with fail
 refine hr.mono ?_
 rintro e w1 ⟨rfl, hb1⟩
 have hbw1 : Below w.heap.size w w1 := hbw.trans (hb1.mono hbw.size)
 have hWS := ws_new w1
 have hb2 : Below w1.heap.size w1 (w1.alloc (.cells #[.pointer none, .slice none 0 0] 216)) := (Below.refl _ _).alloc (Nat.le_refl _) _
 have hbw2 := hbw1.trans (hb2.mono hbw1.size)
 have hl2 := HL.out _ ((HB.out w1 hb1).below hb2)
 have hv2 := HV.out w1.heap.size 0 _ hbw2 hbw1.size hWS (by omega)
 clear hr HL HB HV hld hvb B0 hWS
 go_wp2_with fail
 refine hv2.mono ?_
 rintro e w3 ⟨rfl, n3, h30, h3n, hw3, hk3⟩
 have hlen := wlen_any _ _ w3 hw3
 have hst := wstr_any _ _ w3 hw3 h30
 have d0 : decide (2000 < (n3 : Int)) = false := by simp; omega
 have d1 : (n3 : Int) ≤ 2000 := by omega
 clear hv2 hl2
 go_wp2_with fail
 refine hlen.mono ?_
 rintro e w4 ⟨rfl, hww⟩
 have := hww.symm
 subst this
 clear hlen
 go_wp2_with fail
 refine hst.mono ?_
 rintro e w5 ⟨⟨l, _, rfl⟩, hb5⟩
 go_wp2
 go_ret2
 exact ⟨⟨_, rfl⟩, hbw2.trans ((hk3.1.trans hb5).mono hbw1.size)⟩
end Go.Proofs.YtmbpnkacggngkaaGreatDoor
end
section
namespace Go.Proofs.YtmbpnkacggngkaaGreatDoor
namespace B64
def bits : Nat → Nat → List Nat
 | 0, _ => []
 | k + 1, n => bits k (n / 2) ++ [n % 2]
def num (l : List Nat) : Nat := l.foldl (fun a b => 2 * a + b) 0
def IsBits (l : List Nat) : Prop := ∀ b ∈ l, b < 2
def groups (k : Nat) (L : List Nat) : List Nat := (List.range (L.length / k)).map fun i => num ((L.drop (i * k)).take k)
theorem bits_length (k n : Nat) : (bits k n).length = k := by
 induction k generalizing n with
 | zero => rfl
 | succ k ih => simp [bits, ih]
theorem bits_is (k n : Nat) : IsBits (bits k n) := by
 induction k generalizing n with
 | zero => intro b hb; simp [bits] at hb
 | succ k ih =>
  intro b hb
  simp only [bits, List.mem_append, List.mem_singleton] at hb
  rcases hb with hb | rfl
  ·exact ih _ b hb
  ·omega
theorem num_from (l : List Nat) (a : Nat) : l.foldl (fun a b => 2 * a + b) a = a * 2 ^ l.length + num l := by
 induction l generalizing a with
 | nil => simp [num]
 | cons x l ih =>
  unfold num
  simp only [List.foldl_cons, List.length_cons]
  rw [ih, ih (2 * 0 + x), Nat.pow_succ, Nat.add_mul]
  simp only [Nat.mul_zero, Nat.zero_add]
  have : 2 * a * 2 ^ l.length = a * (2 ^ l.length * 2) := by rw [Nat.mul_comm 2 a, Nat.mul_assoc, Nat.mul_comm 2]
  omega
theorem num_append (a b : List Nat) : num (a ++ b) = num a * 2 ^ b.length + num b := by
 unfold num
 rw [List.foldl_append, num_from]
 rfl
theorem num_one (x : Nat) : num [x] = x := by simp [num]
theorem num_lt {l : List Nat} (h : IsBits l) : num l < 2 ^ l.length := by
 induction l with
 | nil => simp [num]
 | cons x l ih =>
  have h1 := ih fun b hb => h b (by simp [hb])
  have h2 := h x (by simp)
  rw [show x :: l = [x] ++ l from rfl, num_append, num_one, List.length_append, List.length_singleton, Nat.pow_add]
  have : x * 2 ^ l.length ≤ 1 * 2 ^ l.length := Nat.mul_le_mul_right _ (by omega)
  omega
theorem num_bits (k n : Nat) (h : n < 2 ^ k) : num (bits k n) = n := by
 induction k generalizing n with
 | zero => simp at h; subst h; rfl
 | succ k ih =>
  rw [bits, num_append, ih _ (by rw [Nat.pow_succ] at h; omega), num_one]
  simp
  omega
theorem IsBits.append {a b : List Nat} (ha : IsBits a) (hb : IsBits b) : IsBits (a ++ b) := fun x hx => by
 rcases List.mem_append.1 hx with h | h
 ·exact ha x h
 ·exact hb x h
theorem IsBits.left {a b : List Nat} (h : IsBits (a ++ b)) : IsBits a := fun x hx => h x (by simp [hx])
theorem IsBits.right {a b : List Nat} (h : IsBits (a ++ b)) : IsBits b := fun x hx => h x (by simp [hx])
theorem zeros_is (k : Nat) : IsBits (List.replicate k 0) := fun b hb => by
 rw [List.eq_of_mem_replicate hb]
 omega
theorem num_zeros (k : Nat) : num (List.replicate k 0) = 0 := by
 induction k with
 | zero => rfl
 | succ k ih => rw [List.replicate_succ', num_append, ih, num_one]; simp
theorem groups_length (k : Nat) (L : List Nat) : (groups k L).length = L.length / k := by simp [groups]
theorem groups_append {k : Nat} (hk : 0 < k) (a b : List Nat) (m : Nat) (h : a.length = m * k) : groups k (a ++ b) = groups k a ++ groups k b := by
 unfold groups
 have h1 : (a ++ b).length / k = m + b.length / k := by
  rw [List.length_append, h, Nat.add_comm, Nat.add_mul_div_right _ _ hk, Nat.add_comm]
 have h2 : a.length / k = m := by rw [h, Nat.mul_div_cancel _ hk]
 rw [h1, h2, List.range_add, List.map_append, List.map_map]
 congr 1
 ·apply List.map_congr_left
  intro i hi
  have hi := List.mem_range.1 hi
  have h3 : (i + 1) * k ≤ m * k := Nat.mul_le_mul_right _ hi
  rw [Nat.add_mul] at h3
  rw [List.drop_append_of_le_length (by omega), List.take_append_of_le_length (by simp; omega)]
 ·apply List.map_congr_left
  intro i _
  simp only [Function.comp]
  rw [List.drop_append, List.drop_eq_nil_of_le (by rw [h, Nat.add_mul]; omega), List.nil_append, h, Nat.add_mul, Nat.add_sub_cancel_left]
theorem groups_one {k : Nat} (hk : 0 < k) (a : List Nat) (h : a.length = k) : groups k a = [num a] := by
 unfold groups
 rw [h, Nat.div_self hk, show (List.range 1) = [0] from rfl]
 simp [← h]
theorem groups_push {k : Nat} (hk : 0 < k) (a q : List Nat) (m : Nat) (h : a.length = m * k) (hq : q.length = k) : groups k (a ++ q) = groups k a ++ [num q] := by
 rw [groups_append hk a q m h, groups_one hk q hq]
def pad (L : List Nat) : List Nat := L ++ List.replicate ((6 - L.length % 6) % 6) 0
def bitsAll (l : List UInt8) : List Nat := l.flatMap fun c => bits 8 c.toNat
def alphabet : List UInt8 := [65, 66, 67, 68, 69, 70, 71, 72, 73, 74, 75, 76, 77, 78, 79, 80, 81, 82, 83, 84, 85, 86, 87, 88, 89, 90, 97, 98, 99, 100, 101, 102, 103, 104, 105, 106, 107, 108, 109, 110, 111, 112, 113, 114, 115, 116, 117, 118, 119, 120, 121, 122, 48, 49, 50, 51, 52, 53, 54, 55, 56, 57, 45, 95]
def lett (n : Nat) : UInt8 := alphabet.getD n 63
def enc (l : List UInt8) : List UInt8 := (groups 6 (pad (bitsAll l))).map lett
theorem bitsAll_is (l : List UInt8) : IsBits (bitsAll l) := fun b hb => by
 obtain ⟨c, _, hc⟩ := List.mem_flatMap.1 hb
 exact bits_is _ _ b hc
theorem bitsAll_length (l : List UInt8) : (bitsAll l).length = l.length * 8 := by
 induction l with
 | nil => rfl
 | cons c l ih =>
  have : bitsAll (c :: l) = bits 8 c.toNat ++ bitsAll l := rfl
  rw [this, List.length_append, bits_length, ih, List.length_cons]
  omega
theorem bitsAll_append (a b : List UInt8) : bitsAll (a ++ b) = bitsAll a ++ bitsAll b := by simp [bitsAll]
theorem pad_length (L : List Nat) : ∃ m, (pad L).length = m * 6 ∧ m = (L.length + 5) / 6 := by
 refine ⟨(L.length + 5) / 6, ?_, rfl⟩
 simp [pad]
 omega
theorem enc_length (l : List UInt8) : (enc l).length = (l.length * 8 + 5) / 6 := by
 obtain ⟨m, h1, h2⟩ := pad_length (bitsAll l)
 unfold enc
 rw [List.length_map, groups_length, h1, Nat.mul_div_cancel _ (by omega), h2, bitsAll_length]
end B64
end Go.Proofs.YtmbpnkacggngkaaGreatDoor
end
section
namespace Go.Proofs.YtmbpnkacggngkaaGreatDoor
open Go.RowKit Mem
theorem bitsAll_take (l : List UInt8) (k : Nat) (h : k < l.length) : B64.bitsAll (l.take (k + 1)) = B64.bitsAll (l.take k) ++ B64.bits 8 l[k].toNat := by
 rw [List.take_succ_eq_append_getElem h, B64.bitsAll_append]
 simp [B64.bitsAll]
set_option maxHeartbeats 1000000 in
set_option maxRecDepth 100000 in
theorem copyCheckS_fresh (b : Nat) (w : World) (h0 : w.cell? ⟨b, 0, none⟩ = some (.pointer none)) (hsh : w.shape? b = some (214, 2)) (hfz : w.frozen? ⟨b, 0, none⟩ = false) :
  Calls Tryz.prog 257 #[.pointer (some ⟨b, 0, none⟩)] w fun e w' => e = .returned (.tuple #[]) ∧ w' = w.setCell ⟨b, 0, none⟩ (.pointer (some ⟨b, 0, none⟩)) := by
 have X := Tryz.Builder_Extra_169
 obtain ⟨j, hj, hjs⟩ := Option.map_eq_some_iff.1 X.sizeBuilder
 go_enter Tryz.func257, Tryz.ntmps257
 go_wp2
 rw [Lib.run_to_unsafe w ⟨b, 0, none⟩ Tryz.underlying212 Tryz.underlying286 hj (by rw [hjs]; decide) hsh (Nat.zero_lt_succ 1)]
 simp only [Result.andThen]
 rw [Oper.upon_value]
 go_wp2
 rw [run_callFunc_extern Tryz.func271 (by kernel_rfl) (by kernel_rfl) (by kernel_rfl) (e := Extern.AbiNoEscape.same) (by kernel_rfl)]
 rw [Lib.run_noEscape]
 simp only [Result.andThen]
 rw [Oper.upon_value]
 go_wp2
 rw [Lib.run_from_unsafe w ⟨b, 0, none⟩ Tryz.underlying286 Tryz.underlying212 hj hsh (by kernel_rfl)]
 simp only [Result.andThen]
 rw [Oper.upon_value]
 go_wp2
 go_end0
 exact ⟨rfl, rfl⟩
theorem copyCheckS_any (B b : Nat) (bs : List Value) (w : World) (h : Lib.IsBuilder 214 5 B b bs w) :
  Calls Tryz.prog 257 #[.pointer (some ⟨b, 0, none⟩)] w fun e w' => e = .returned (.tuple #[]) ∧ (Lib.BuilderAt 214 5 B b (.pointer (some ⟨b, 0, none⟩)) bs w' ∧ Below B w w') := by
 rcases h with h | h
 ·refine (copyCheckS_fresh b w h.cell0 h.shape h.frozen0).mono ?_
  rintro e w' ⟨rfl, rfl⟩
  exact ⟨rfl, h.used _, (Below.refl B w).setCell (p := ⟨b, 0, none⟩) h.1 _⟩
 ·refine (copyCheck_used b w h.cell0).mono ?_
  rintro e w' ⟨rfl, rfl⟩
  exact ⟨rfl, h, Below.refl B _⟩
set_option maxHeartbeats 2000000 in
set_option maxRecDepth 100000 in
theorem writeByteS_any (B b : Nat) (bs : List Value) (c : Int) (w : World) (h : Lib.IsBuilder 214 5 B b bs w) (hlen : bs.length + 1 ≤ 140737488355328) (hBw : B ≤ w.heap.size) :
  Calls Tryz.prog 227 #[.pointer (some ⟨b, 0, none⟩), .int .u8 c] w fun e w' => e = .returned .nilIface ∧ (Lib.BuilderAt 214 5 B b (.pointer (some ⟨b, 0, none⟩)) (bs ++ [.int .u8 c]) w' ∧ Below B w w') := by
 obtain ⟨i0, hi, hz0, hz1, hz2⟩ := info_parts infoB
 go_enter Tryz.func227, Tryz.ntmps227
 go_wp2_with fail
 refine (copyCheckS_any B b bs _ h).mono ?_
 rintro e w1 ⟨rfl, h1, hb1⟩
 obtain ⟨hB, v, hbk, hown, hne⟩ := h1
 have c0 : w1.cell? ⟨b, 0, none⟩ = some (.pointer (some ⟨b, 0, none⟩)) := by rw [Lib.cell_of_heap hbk]; rfl
 have c1 : w1.cell? ⟨b, 1, none⟩ = some v := by rw [Lib.cell_of_heap hbk]; rfl
 have hB1 : B ≤ w1.heap.size := Nat.le_trans hBw hb1.size
 have h63 : bs.length + 1 ≤ maxLen := by unfold maxLen; omega
 go_wp2_with (at_builtin; go_must (refine wpList_push rfl (.tmp 11) (.tmp 13) 62 rfl B i0 (.int .u8 0) 1 Tryz.underlying62 hi hz0 hz1 hz2 rfl _ _ _ rfl hown rfl rfl h63 (by omega) hB1 ?_))
 intro A' c' w2 hown' g1 g2 hgrow
 have hlt : b < w1.heap.size := by
  rcases Nat.lt_or_ge b w1.heap.size with h' | h'
  ·exact h'
  ·simp [Array.getElem?_eq_none h'] at hbk
 have hb2 : w2.heap[b]? = some (.cells #[.pointer (some ⟨b, 0, none⟩), v] 214 (0, 0)) := by
  rw [hgrow.block b (by simp; omega) (fun e => hne e.symm), Lib.alloc_old w1 _ b hlt]
  exact hbk
 have d0 : w2.cell? ⟨b, 0, none⟩ = some (.pointer (some ⟨b, 0, none⟩)) := by rw [Lib.cell_of_heap hb2]; rfl
 have d1 : w2.cell? ⟨b, 1, none⟩ = some v := by rw [Lib.cell_of_heap hb2]; rfl
 have f1 : w2.frozen? ⟨b, 1, none⟩ = false := Lib.frozen_of_heap hb2 1
 obtain ⟨g, cap, hsl⟩ : ∃ g cap, Value.slice A' (bs.length + 1) c' = .slice (some ⟨g, 0, none⟩) (bs.length + 1) cap := by
  rcases hown'.2 with ⟨_, h0⟩ | ⟨g, cap, cur, hv, _⟩
  ·omega
  ·exact ⟨g, cap, hv⟩
 rw [hsl] at hown' ⊢
 go_wp2
 go_ret
 refine ⟨rfl, ?_, ?_⟩
 ·exact Lib.BuilderAt.put (T := 214) (e := 5) hB hb2 (bs' := bs ++ [.int .u8 c]) (by simpa using hown') (by decide)
 ·exact ((hb1.alloc (by have := hb1.size; omega) _).grown hgrow (by have := hb1.size; simp; omega) (fun k hk => (hown.lt k hk).1)).setCell (p := ⟨b, 1, none⟩) hB _
end Go.Proofs.YtmbpnkacggngkaaGreatDoor
end
section
namespace Go.Proofs.YtmbpnkacggngkaaGreatDoor
open Go.RowKit
theorem mwraps_i64_20 (n : Int) (h₀ : 0 ≤ n) (h₁ : n < 2 ^ 20) : IntKind.i64.wrap n = n := by rw [IntKind.wrap_i64]; omega
section
variable (x : Nat) (hx : x < 1048576)
include hx
theorem mand63 : Go.bits .and .i64 (x : Int) 63 = ((x % 64 : Nat) : Int) := by
 have := bits_mask .i64 20 (by decide) mwraps_i64_20 6 (by decide) (x : Int) (by omega) (by omega)
 simpa using this
end
theorem mor256 (x y : Nat) (hx : x < 4096) (hy : y < 256) : Go.bits .or .i64 ((x : Int) * 256) (y : Int) = ((x * 256 + y : Nat) : Int) := by
 have := bits_join .i64 20 (by decide) mwraps_i64_20 8 ((x : Int) * 256) (y : Int) (by omega) (by omega) (by omega) (by omega) (by omega) (by omega)
 rw [this]
 omega
theorem mmask_any (x sh : Nat) (hx : x < 1048576) (h : sh ≤ 7) : Go.bits .and .i64 (x : Int) (wrap64 (wrap64 (2 ^ sh) - 1)) = ((x % 2 ^ sh : Nat) : Int) := by
 have key : ∀ i, i ≤ 7 → wrap64 (wrap64 (2 ^ i) - 1) = 2 ^ i - 1 := by decide +kernel
 rw [key sh h, bits_mask .i64 20 (by decide) mwraps_i64_20 sh (by omega) (x : Int) (by omega) (by omega)]
 simp
end Go.Proofs.YtmbpnkacggngkaaGreatDoor
end
section
namespace Go.Proofs.YtmbpnkacggngkaaGreatDoor
open Go.RowKit Mem B64
def letters : ByteArray := ⟨#[65, 66, 67, 68, 69, 70, 71, 72, 73, 74, 75, 76, 77, 78, 79, 80, 81, 82, 83, 84, 85, 86, 87, 88, 89, 90, 97, 98, 99, 100, 101, 102, 103, 104, 105, 106, 107, 108, 109, 110, 111, 112, 113, 114, 115, 116, 117, 118, 119, 120, 121, 122, 48, 49, 50, 51, 52, 53, 54, 55, 56, 57, 45, 95]⟩
theorem letters_at (r : Nat) (h : r < letters.size) : letters[r] = lett r := by
 have h64 : r < alphabet.length := h
 unfold lett
 rw [List.getD_eq_getElem?_getD, List.getElem?_eq_getElem h64]
 rfl
set_option maxRecDepth 100000 in
set_option maxHeartbeats 2000000 in
theorem encode_any (A : Option Addr) (n c B : Nat) (l : List UInt8) (w : World) (hd : Bs w B A n l) (hn : n ≤ 400) (hB : B ≤ w.heap.size) :
  Calls Tryz.prog 198 #[.slice A n c] w fun e w' => e = .returned (.string (str (enc l))) ∧ Below w.heap.size w w' := by
 have hln := hd.len
 have HL := Lib.hid hln
 clear hln
 have hb0 : Lib.IsBuilder 214 5 w.heap.size w.heap.size [] (w.alloc (.cells #[.pointer none, .slice none 0 0] 214)) := Lib.fresh_isBuilder _ _ w
 have hbel0 : Below w.heap.size w (w.alloc (.cells #[.pointer none, .slice none 0 0] 214)) := (Below.refl _ _).alloc (Nat.le_refl _) _
 go_enter Tryz.func198, Tryz.ntmps198
 go_wp2
 go_loopw [4, 5, 10] (fun vw vn i wr => ∃ (k m pn x : Nat) (Q P : List Nat), k ≤ n ∧ i = .int .i64 k ∧ vn = .int .i64 pn ∧ vw = .int .i64 x ∧ pn < 6 ∧ x < 32 ∧ m ≤ 3200 ∧ Hid (bitsAll (l.take k) = Q ++ P ∧ Q.length = m * 6 ∧ P.length = pn ∧ num P = x) ∧ Lib.IsBuilder 214 5 w.heap.size w.heap.size (bv ((groups 6 Q).map lett)) wr ∧ Below w.heap.size w wr) (fun _ _ i _ => n - (intOf i).toNat)
 case atStart => exact ⟨0, 0, 0, 0, [], [], by omega, rfl, rfl, rfl, by omega, by omega, by omega, Lib.hid ⟨rfl, rfl, rfl, rfl⟩, hb0, hbel0⟩
 case round =>
  obtain ⟨k, m, pn, x, Q, P, hk, rfl, rfl, rfl, hpn, hx, hm, HH, hbl, hb⟩ := hrel
  clear hb0 hbel0
  by_cases hlt : k < n
  ·obtain ⟨ad, hl, rfl, hblk, hcell⟩ := (hd.next hB hb).at_ hlt
   have hst := bitsAll_take l k hl
   have hc : l[k].toNat < 256 := l[k].toNat_lt
   generalize l[k].toNat = ch at *
   have hor := mor256 x ch (by omega) hc
   obtain ⟨y, hy⟩ : ∃ y, x * 256 + ch = y := ⟨_, rfl⟩
   rw [hy] at hor
   have hy2 : y < 8192 := by omega
   have hbitsP : num (B64.bits 8 ch) = ch := num_bits 8 ch (by omega)
   have HH2 : Hid (bitsAll (l.take (k + 1)) = Q ++ (P ++ B64.bits 8 ch) ∧ Q.length = m * 6 ∧ (P ++ B64.bits 8 ch).length = pn + 8 ∧ num (P ++ B64.bits 8 ch) = y) := by
    refine Lib.hid ⟨?_, HH.out.2.1, ?_, ?_⟩
    ·rw [hst, HH.out.1, List.append_assoc]
    ·rw [List.length_append, bits_length, HH.out.2.2.1]
    ·rw [num_append, bits_length, hbitsP, HH.out.2.2.2]
     omega
   clear hst hbitsP hy HH hd
   generalize P ++ B64.bits 8 ch = P2 at HH2
   go_wp2_with fail
   go_loopw [4, 5] (fun vw vn wr => ∃ (m pn x : Nat) (Q P : List Nat), vn = .int .i64 pn ∧ vw = .int .i64 x ∧ pn ≤ 13 ∧ x < 8192 ∧ m ≤ 3200 ∧ Hid (bitsAll (l.take (k + 1)) = Q ++ P ∧ Q.length = m * 6 ∧ P.length = pn ∧ num P = x) ∧ Lib.IsBuilder 214 5 w.heap.size w.heap.size (bv ((groups 6 Q).map lett)) wr ∧ Below w.heap.size w wr) (fun _ vn _ => (intOf vn).toNat)
   case atStart => exact ⟨m, pn + 8, y, Q, P2, by go_num, rfl, by omega, by omega, by omega, HH2, hbl, hb⟩
   case round =>
    clear hor
    obtain ⟨m1, pn1, x1, Q1, P1, rfl, rfl, hpn1, hx1, hm1, HH1, hbl1, hb1⟩ := hrel
    by_cases hge : 6 ≤ pn1
    ·obtain ⟨sh, hsh⟩ : ∃ sh, pn1 = sh + 6 := ⟨pn1 - 6, by omega⟩
     subst hsh
     obtain ⟨R, S, hRS, hR, hS⟩ : ∃ R S, P1 = R ++ S ∧ R.length = 6 ∧ S.length = sh := ⟨P1.take 6, P1.drop 6, (List.take_append_drop 6 P1).symm, by simp [HH1.out.2.2.1], by simp [HH1.out.2.2.1]⟩
     have hbitsAll := bitsAll_is (l.take (k + 1))
     rw [HH1.out.1, hRS] at hbitsAll
     have hRis := hbitsAll.right.left
     have hSis := hbitsAll.right.right
     have hrlt := num_lt hRis
     have hslt := num_lt hSis
     have hx := HH1.out.2.2.2
     rw [hRS, num_append] at hx
     rw [hR] at hrlt
     rw [hS] at hslt hx
     obtain ⟨sN, hsN⟩ : ∃ sN, num S = sN := ⟨_, rfl⟩
     have HH3 : Hid (bitsAll (l.take (k + 1)) = (Q1 ++ R) ++ S ∧ (Q1 ++ R).length = (m1 + 1) * 6 ∧ S.length = sh ∧ num S = sN) := Lib.hid ⟨by rw [HH1.out.1, hRS, List.append_assoc], by rw [List.length_append, HH1.out.2.1, hR]; omega, hS, hsN⟩
     have hpush : bv ((groups 6 (Q1 ++ R)).map lett) = bv ((groups 6 Q1).map lett) ++ [.int .u8 ((lett (num R)).toNat : Int)] := by
      rw [groups_push (by omega) Q1 R m1 HH1.out.2.1 hR, List.map_append, bv_append]
      rfl
     have HP := Lib.hid hpush
     have hm2 : m1 < 3200 := by
      have h1 := congrArg List.length HH1.out.1
      rw [bitsAll_length, List.length_append, HH1.out.2.1] at h1
      have : (l.take (k + 1)).length ≤ 401 := by simp; omega
      omega
     rw [hsN] at hx hslt
     generalize num R = r at *
     clear hsN
     have hq : x1 / 2 ^ sh = r := by
      rw [← hx, Nat.add_comm, Nat.add_mul_div_right _ _ (Nat.two_pow_pos _), Nat.div_eq_of_lt hslt, Nat.zero_add]
     have hr : x1 % 2 ^ sh = sN := by
      rw [← hx, Nat.add_comm, Nat.add_mul_mod_self_right, Nat.mod_eq_of_lt hslt]
     have f1 : (x1 : Int) / 2 ^ sh = (r : Int) := by rw [← hq]; simp
     have f2 := mand63 r (by omega)
     rw [Nat.mod_eq_of_lt (by omega)] at f2
     clear hx hbitsAll hpush hR hS hRS
     have hHq := Lib.hid hq
     have hHr := Lib.hid hr
     clear hq hr
     have hlenb : (bv ((groups 6 Q1).map lett)).length + 1 ≤ 140737488355328 := by
      rw [bv_length, List.length_map, groups_length]
      have := HH1.out.2.1
      omega
     go_wp2_with fail
     refine (writeByteS_any w.heap.size w.heap.size _ _ wr hbl1 hlenb hb1.size).mono ?_
     rintro e w2 ⟨rfl, hbl2, hb2⟩
     have hbl3 : Lib.IsBuilder 214 5 w.heap.size w.heap.size (bv ((groups 6 (Q1 ++ R)).map lett)) w2 := by
      rw [HP.out, ← letters_at r (by show r < 64; omega)]
      exact .inr hbl2
     have hb3 := hb1.trans hb2
     clear hbl2 hb2 hbl1 hb1 f1 f2
     have hmask := mmask_any x1 sh (by omega) (by omega)
     rw [hHr.out] at hmask
     have hs7 : 2 ^ sh ≤ 2 ^ 7 := Nat.pow_le_pow_right (by omega) (by omega)
     go_wp2
     go_roundw
     case rel => exact ⟨m1 + 1, sh, sN, Q1 ++ R, S, rfl, by first | rfl | rw [hmask], by omega, by omega, by omega, HH3, hbl3, hb3⟩
     case measure => simp [intOf]; omega
    ·have hP1 : IsBits P1 := by
      have h := bitsAll_is (l.take (k + 1))
      rw [HH1.out.1] at h
      exact h.right
     have hx32 : x1 < 32 := by
      have h := num_lt hP1
      rw [HH1.out.2.2.1, HH1.out.2.2.2] at h
      have : 2 ^ pn1 ≤ 2 ^ 5 := Nat.pow_le_pow_right (by omega) (by omega)
      omega
     go_wp2
     go_roundw
     case rel => exact ⟨k + 1, m1, pn1, x1, Q1, P1, by omega, by go_num, rfl, rfl, by omega, hx32, hm1, HH1, hbl1, hb1⟩
     case measure => simp [intOf]; omega
  ·obtain rfl : k = n := by omega
   have htk : l.take k = l := by rw [← HL.out, List.take_length]
   rw [htk] at HH
   have hPis : IsBits P := by
    have h := bitsAll_is l
    rw [HH.out.1] at h
    exact h.right
   by_cases h0 : pn = 0
   ·subst h0
    have hP : P = [] := List.eq_nil_of_length_eq_zero HH.out.2.2.1
    have henc : enc l = (groups 6 Q).map lett := by
     have hz : (6 - (bitsAll l).length % 6) % 6 = 0 := by
      rw [HH.out.1, hP, List.append_nil, HH.out.2.1]
      omega
     unfold enc B64.pad
     rw [hz, HH.out.1, hP]
     simp
    have HE := Lib.hid henc
    have hstr := Tryz.Builder_String_any w.heap.size w.heap.size _ wr hbl hb.size
    rw [← HE.out] at hstr
    clear henc hP
    go_wp2_with fail
    refine hstr.mono ?_
    rintro e w2 ⟨rfl, hb2⟩
    go_wp2
    go_ret
    exact ⟨rfl, hb.trans hb2⟩
   ·have hzs : num (P ++ List.replicate (6 - pn) 0) = x * 2 ^ (6 - pn) := by
     rw [num_append, num_zeros, HH.out.2.2.2, List.length_replicate, Nat.add_zero]
    have hR : (P ++ List.replicate (6 - pn) 0).length = 6 := by
     rw [List.length_append, List.length_replicate, HH.out.2.2.1]
     omega
    have hz64 := num_lt (hPis.append (zeros_is (6 - pn)))
    rw [hR] at hz64
    obtain ⟨z, hz⟩ : ∃ z, x * 2 ^ (6 - pn) = z := ⟨_, rfl⟩
    rw [hzs, hz] at hz64
    have hzi : (x : Int) * 2 ^ (6 - pn) = (z : Int) := by rw [← hz]; simp
    have hw : wrap64 ((x : Int) * 2 ^ (6 - pn)) = (z : Int) := by
     rw [hzi]
     unfold wrap64
     omega
    have henc : enc l = (groups 6 (Q ++ (P ++ List.replicate (6 - pn) 0))).map lett := by
     have hzz : (6 - (bitsAll l).length % 6) % 6 = 6 - pn := by
      rw [HH.out.1, List.length_append, HH.out.2.1, HH.out.2.2.1]
      omega
     unfold enc B64.pad
     rw [hzz, HH.out.1, List.append_assoc]
    have hpush : bv (enc l) = bv ((groups 6 Q).map lett) ++ [.int .u8 ((lett z).toNat : Int)] := by
     rw [henc, groups_push (by omega) Q _ m HH.out.2.1 hR, List.map_append, bv_append, hzs, hz]
     rfl
    have HP := Lib.hid hpush
    have hlenb : (bv ((groups 6 Q).map lett)).length + 1 ≤ 140737488355328 := by
     rw [bv_length, List.length_map, groups_length]
     have := HH.out.2.1
     omega
    clear hzs hR hz hzi henc hpush htk hd
    go_wp2_with fail
    refine (writeByteS_any w.heap.size w.heap.size _ _ wr hbl hlenb hb.size).mono ?_
    rintro e w2 ⟨rfl, hbl2, hb2⟩
    have hbl3 : Lib.IsBuilder 214 5 w.heap.size w.heap.size (bv (enc l)) w2 := by
     rw [HP.out, ← letters_at z (by show z < 64; omega)]
     exact .inr hbl2
    have hb3 := hb.trans hb2
    have hstr := Tryz.Builder_String_any w.heap.size w.heap.size _ w2 hbl3 hb3.size
    clear hbl2 hb2 hbl hb hw
    go_wp2_with fail
    refine hstr.mono ?_
    rintro e w4 ⟨rfl, hb4⟩
    go_wp2
    go_ret
    exact ⟨rfl, hb3.trans hb4⟩
end Go.Proofs.YtmbpnkacggngkaaGreatDoor
end
section
namespace Go.Proofs.YtmbpnkacggngkaaGreatDoor
namespace Sha
def kkL : List Nat := [1116352408, 1899447441, 3049323471, 3921009573, 961987163, 1508970993, 2453635748, 2870763221, 3624381080, 310598401, 607225278, 1426881987, 1925078388, 2162078206, 2614888103, 3248222580, 3835390401, 4022224774, 264347078, 604807628, 770255983, 1249150122, 1555081692, 1996064986, 2554220882, 2821834349, 2952996808, 3210313671, 3336571891, 3584528711, 113926993, 338241895, 666307205, 773529912, 1294757372, 1396182291, 1695183700, 1986661051, 2177026350, 2456956037, 2730485921, 2820302411, 3259730800, 3345764771, 3516065817, 3600352804, 4094571909, 275423344, 430227734, 506948616, 659060556, 883997877, 958139571, 1322822218, 1537002063, 1747873779, 1955562222, 2024104815, 2227730452, 2361852424, 2428436474, 2756734187, 3204031479, 3329325298]
def ffL : List Nat := [1779033703, 3144134277, 1013904242, 2773480762, 1359893119, 2600822924, 528734635, 1541459225]
def psum (d : List UInt8) : List UInt8 := sum kkL ffL d
def pname (d : List UInt8) : List UInt8 := hexs (psum d) 4
theorem psum_len (d : List UInt8) : (psum d).length = 32 := sum_len _ _ _
theorem pname_len (d : List UInt8) : (pname d).length = 8 := hexs_len _ 4
end Sha
end Go.Proofs.YtmbpnkacggngkaaGreatDoor
end
section
namespace Go.Proofs.YtmbpnkacggngkaaGreatDoor
open Go.RowKit Mem Led
theorem lett_fine (n : Nat) : (B64.lett n).toNat ≤ 126 ∧ 32 ≤ (B64.lett n).toNat ∧ (B64.lett n).toNat ≠ 34 ∧ (B64.lett n).toNat ≠ 92 := by
 by_cases h : n < 64
 ·exact (by decide +kernel : ∀ n, n < 64 → (B64.lett n).toNat ≤ 126 ∧ 32 ≤ (B64.lett n).toNat ∧ (B64.lett n).toNat ≠ 34 ∧ (B64.lett n).toNat ≠ 92) n h
 ·unfold B64.lett
  have : B64.alphabet[n]? = none := List.getElem?_eq_none (by show 64 ≤ n; omega)
  rw [List.getD_eq_getElem?_getD, this]
  decide
theorem fine_enc (l : List UInt8) : Fine (B64.enc l) := by
 have key : ∀ c ∈ B64.enc l, c.toNat ≤ 126 ∧ 32 ≤ c.toNat ∧ c.toNat ≠ 34 ∧ c.toNat ≠ 92 := fun c hc => by
  obtain ⟨n, _, rfl⟩ := List.mem_map.1 hc
  exact lett_fine n
 exact ⟨fun c hc => (key c hc).1, fun c hc => (key c hc).2⟩
theorem hexd_fine : ∀ n, n < 16 → (Sha.hexd n).toNat ≤ 126 ∧ 32 ≤ (Sha.hexd n).toNat ∧ (Sha.hexd n).toNat ≠ 34 ∧ (Sha.hexd n).toNat ≠ 92 := by decide +kernel
theorem hexs_fine (h : List UInt8) : ∀ i, ∀ c ∈ Sha.hexs h i, c.toNat ≤ 126 ∧ 32 ≤ c.toNat ∧ c.toNat ≠ 34 ∧ c.toNat ≠ 92
 | 0, c, hc => by cases hc
 | i + 1, c, hc => by
  simp only [Sha.hexs, List.mem_append, List.mem_cons, List.not_mem_nil, or_false] at hc
  rcases hc with (hc | rfl) | rfl
  ·exact hexs_fine h i c hc
  ·exact hexd_fine _ (by have := (h.getD i 0).toNat_lt; omega)
  ·exact hexd_fine _ (Nat.mod_lt _ (by omega))
theorem fine_pname (l : List UInt8) : Fine (Sha.pname l) := ⟨fun c hc => (hexs_fine _ 4 c hc).1, fun c hc => (hexs_fine _ 4 c hc).2⟩
set_option maxRecDepth 100000 in
theorem jtext_any (t : Txt) (w : World) : Calls Tryz.prog 179 #[.string (str t)] w fun e w' => e = .returned (.agg (jsRow (jText t)).toArray) ∧ Below w.heap.size w w' := by
 have bn := Blk.new w (jsRow ⟨0, 0, [], .slice none 0 0, .slice none 0 0⟩) 197
 obtain ⟨hst, BK⟩ := store_js bn (vs := jsRow (jText t)) rfl rfl (jsRow_one _ rfl rfl)
 obtain ⟨w3, hw3⟩ : ∃ w3, (w.alloc (.cells (jsRow ⟨0, 0, [], .slice none 0 0, .slice none 0 0⟩).toArray 197)).setCells w.heap.size 0 (jsRow (jText t)) = w3 := ⟨_, rfl⟩
 have hcn : Chg [] w w3 := by rw [← hw3]; exact ((Chg.refl _ _).alloc _).setCells _ (.inr (Nat.le_refl _))
 rw [hw3] at hst BK
 have hb3 := hcn.below (fun _ h => by cases h)
 have hst' : (stJs (.pointer (some ⟨w.heap.size, 0, none⟩)) (.agg #[.int .i64 3, .int .i64 0, .string (str t), .slice none 0 0, .slice none 0 0])).run Tryz.prog (w.alloc (.cells #[.int .i64 0, .int .i64 0, .string ⟨#[]⟩, .slice none 0 0, .slice none 0 0] 197)) = .ok () w3 := hst
 have hH := BK.has (n := 5) rfl
 have hA := BK.arr (n := 5) rfl
 clear hst hw3 hcn bn
 go_enter Tryz.func179, Tryz.ntmps179
 go_wp2
 refine bodyPost_ret (results_arr (P := Tryz.prog) Tryz.results179 _ _ w.heap.size 0 5 _ rfl Tryz.underlying197 rfl sizeJs hH) rfl ?_
 exact ⟨congrArg (fun a => Ending.returned (Value.agg a)) hA, hb3⟩
end Go.Proofs.YtmbpnkacggngkaaGreatDoor
end
section
namespace Go.Proofs.YtmbpnkacggngkaaGreatDoor
namespace Sha
theorem down_eq : ∀ (n m : Nat), down n m = m / 2 ^ n
 | 0, m => by simp [down]
 | n + 1, m => by rw [down, down_eq n m, Nat.div_div_eq_div_mul, ← Nat.pow_succ]
theorem turn_eq (m : Nat) : ∀ n, n ≤ 32 → turn n m = m / 2 ^ n + m % 2 ^ n * 2 ^ (32 - n)
 | 0, _ => by simp [turn, Nat.mod_one]
 | n + 1, h => by
  rw [turn, turn_eq m n (by omega)]
  have e1 : 2 ^ (32 - n) = 2 * 2 ^ (32 - (n + 1)) := by rw [← Nat.pow_succ']; congr 1; omega
  have e2 : m % 2 ^ (n + 1) = m % 2 ^ n + 2 ^ n * (m / 2 ^ n % 2) := Nat.mod_pow_succ
  have e3 : m / 2 ^ (n + 1) = m / 2 ^ n / 2 := by rw [Nat.div_div_eq_div_mul, ← Nat.pow_succ]
  have e4 : 2 ^ n * 2 ^ (32 - (n + 1)) = 2147483648 := by rw [← Nat.pow_add, show n + (32 - (n + 1)) = 31 by omega]
  have e5 : 2 ^ n * (m / 2 ^ n % 2) * 2 ^ (32 - (n + 1)) = m / 2 ^ n % 2 * 2147483648 := by
   rw [← e4, Nat.mul_comm (2 ^ n) (m / 2 ^ n % 2), Nat.mul_assoc]
  rw [e1, e2, e3, Nat.add_mul, e5]
  unfold half
  generalize m / 2 ^ n = a
  have e6 : m % 2 ^ n * (2 * 2 ^ (32 - (n + 1))) = 2 * (m % 2 ^ n * 2 ^ (32 - (n + 1))) := by rw [Nat.mul_left_comm]
  rw [e6]
  generalize m % 2 ^ n * 2 ^ (32 - (n + 1)) = b
  omega
theorem turn_or (m : Nat) (hm : m < 4294967296) (n : Nat) (hn : n ≤ 32) : m / 2 ^ n ||| m * 2 ^ (32 - n) % 4294967296 = turn n m := by
 have e : 4294967296 = 2 ^ n * 2 ^ (32 - n) := by rw [← Nat.pow_add, show n + (32 - n) = 32 by omega]
 have h1 : m / 2 ^ n < 2 ^ (32 - n) := by
  rw [Nat.div_lt_iff_lt_mul (Nat.two_pow_pos n), Nat.mul_comm, ← e]
  exact hm
 rw [turn_eq m n hn]
 have h2 : m * 2 ^ (32 - n) % 4294967296 = 2 ^ (32 - n) * (m % 2 ^ n) := by
  rw [e, Nat.mul_mod_mul_right, Nat.mul_comm]
 rw [h2, Nat.or_comm, ← Nat.two_pow_add_eq_or_of_lt h1, Nat.mul_comm (m % 2 ^ n), Nat.add_comm]
end Sha
end Go.Proofs.YtmbpnkacggngkaaGreatDoor
end
section
namespace Go.Proofs.YtmbpnkacggngkaaGreatDoor
open Go.RowKit Mem
def formL : List Value := [.int .i64 32, .int .i64 64, .int .i64 2, .int .i64 13, .int .i64 22, .int .i64 6, .int .i64 11, .int .i64 25, .int .i64 7, .int .i64 18, .int .i64 3, .int .i64 17, .int .i64 19, .int .i64 10]
structure F32 (hc : List Value) : Prop where
 len : hc.length = 14
 bits : hc[0]? = some (.int .i64 32)
 many : hc[1]? = some (.int .i64 64)
 one : ∀ v ∈ hc, v.oneCell' = true
set_option maxRecDepth 100000 in
set_option maxHeartbeats 1000000 in
theorem pturned_any (hc : List Value) (h : F32 hc) (m n : Nat) (hm : m < 4294967296) (hn : n ≤ 32) (w : World) :
  Calls Tryz.prog 280 #[.agg hc.toArray, .int .u64 (m : Int), .int .i64 (n : Int)] w fun e w' => e = .returned (.int .u64 ((Sha.turn n m : Nat) : Int)) ∧ Below w.heap.size w w' := by
 have hbits := h.bits
 go_enter Tryz.func280, Tryz.ntmps280
 go_wp2
 refine Batch.wp_region_grew (by kernel_rfl) (by kernel_rfl) ?_
 repeat (go_big_quiet_step (fail))
 refine wpQuiet_nil ?_
 rintro _ ⟨p, rfl⟩
 have hb := Batch.grew_below (w.alloc (.cells hc.toArray 269)) p
 generalize Batch.grew (w.alloc (.cells hc.toArray 269)) p = w1 at *
 go_wp2
 go_ret
 refine ⟨ret_v ?_, ((Below.refl _ _).alloc (Nat.le_refl _) _).trans (hb.mono (by simp))⟩
 have e1 : (m : Int) / 2 ^ n = ((m / 2 ^ n : Nat) : Int) := by rw [Int.natCast_ediv, Int.natCast_pow]; rfl
 have e2 : (m : Int) * 2 ^ (32 - n) % 4294967296 = ((m * 2 ^ (32 - n) % 4294967296 : Nat) : Int) := by rw [Int.natCast_emod, Int.natCast_mul, Int.natCast_pow]; rfl
 have h1 : m / 2 ^ n < 4294967296 := Nat.lt_of_le_of_lt (Nat.div_le_self _ _) hm
 rw [e1, e2, u32_or_nat _ _ h1 (Nat.mod_lt _ (by omega)), Sha.turn_or m hm n hn]
 have := Sha.turn_lt hm n
 have e3 : IntKind.u64.wrap ((Sha.turn n m : Nat) : Int) = ((Sha.turn n m : Nat) : Int) := by rw [IntKind.wrap_u64]; omega
 rw [e3]
 rfl
theorem size_F : (Tryz.prog.info? 269).map (·.size) = some 14 := by kernel_rfl
def loadF (x : Value) : Sem Value := Instr.loadAt 269 x
theorem named_load_F (x : Value) : Instr.loadAt 269 x = loadF x := rfl
attribute [go_sem ↓] named_load_F
theorem load_F {w : World} {g : Nat} {cs : List Value} {t : TypeId} (h : Blk w g cs t) (hn : cs.length = 14) : (loadF (.pointer (some ⟨g, 0, none⟩))).run Tryz.prog w = .ok (.agg cs.toArray) w := by
 have := run_load_arr (P := Tryz.prog) w 269 g 0 14 _ Tryz.underlying269 rfl size_F (blk_has h hn)
 rw [blk_arr h hn] at this
 exact this
set_option maxRecDepth 100000 in
set_option maxHeartbeats 2000000 in
theorem pall_any (hc : List Value) (h : F32 hc) (a b c m : Nat) (hm : m < 4294967296) (ha : a ≤ 32) (hb : b ≤ 32) (hcc : c ≤ 32) (sh : Bool) (w : World) :
  Calls Tryz.prog 277 #[.agg hc.toArray, .int .u64 (m : Int), .agg #[.int .i64 (a : Int), .int .i64 (b : Int), .int .i64 (c : Int)], .bool sh] w fun e w' => e = .returned (.int .u64 ((Sha.mixed a b c sh m : Nat) : Int)) ∧ Below w.heap.size w w' := by
 obtain ⟨W, hW⟩ : ∃ W, (w.alloc (.cells hc.toArray 269)).alloc (.cells ([.int .i64 (a : Int), .int .i64 (b : Int), .int .i64 (c : Int)] : List Value).toArray 265) = W := ⟨_, rfl⟩
 have B : Blk W w.heap.size hc 269 := by rw [← hW]; exact (Blk.new _ _ _).alloc _
 have B1 : Blk W (w.heap.size + 1) [.int .i64 (a : Int), .int .i64 (b : Int), .int .i64 (c : Int)] 265 := by
  have := Blk.new (w.alloc (.cells hc.toArray 269)) [.int .i64 (a : Int), .int .i64 (b : Int), .int .i64 (c : Int)] 265
  rw [← hW]
  simpa using this
 have hbw : Below w.heap.size w W := by rw [← hW]; exact ((Below.refl _ _).alloc (Nat.le_refl _) _).alloc (by simp) _
 have hlen := h.len
 have TURN : Hid (∀ n : Nat, n ≤ 32 → ∀ w', Calls Tryz.prog 280 #[.agg hc.toArray, .int .u64 (m : Int), .int .i64 (n : Int)] w' fun e w'' => e = .returned (.int .u64 ((Sha.turn n m : Nat) : Int)) ∧ Below w'.heap.size w' w'') := Lib.hid fun n hn w' => pturned_any hc h m n hm hn w'
 have l0 := load_F B hlen
 have i2 : W.cell? ⟨w.heap.size + 1, 2, none⟩ = some (.int .i64 (c : Int)) := B1.cell 2
 have HW := Lib.hid hW
 clear hW
 obtain ⟨z, hz1⟩ : ∃ z, Hid (Sha.lastOf c sh m = z) := ⟨_, Lib.hid rfl⟩
 have HM := Lib.hid (show Sha.mixed a b c sh m = Sha.turn a m ^^^ Sha.turn b m ^^^ z by rw [← hz1.out]; rfl)
 have ht1 := Sha.turn_lt hm a
 have ht2 := Sha.turn_lt hm b
 have ht3 : z < 4294967296 := by rw [← hz1.out]; exact Sha.lastOf_lt hm c sh
 have hx1 := u64_xor_nat (Sha.turn a m) (Sha.turn b m) (by omega) (by omega)
 have hx2 := u64_xor_nat (Sha.turn a m ^^^ Sha.turn b m) z (by have := Sha.xor_lt ht1 ht2; omega) (by omega)
 obtain ⟨u, hu⟩ : ∃ u, Sha.turn a m ^^^ Sha.turn b m = u := ⟨_, rfl⟩
 rw [hu] at hx1 hx2 HM
 obtain ⟨r, hr⟩ : ∃ r, u ^^^ z = r := ⟨_, rfl⟩
 rw [hr] at hx2 HM
 clear hu hr ht1 ht2
 go_enter Tryz.func277, Tryz.ntmps277
 go_upto_region 1 with fail
 rw [show ((w.alloc (.cells hc.toArray 269)).alloc (.cells #[.int .i64 (a : Int), .int .i64 (b : Int), .int .i64 (c : Int)] 265)) = W from HW.out]
 go_wp2_with fail
 refine (TURN.out c hcc _).mono ?_
 rintro e w1 ⟨rfl, hb1⟩
 have b1 := B.below hb1
 have b2 := B1.below hb1
 have hbw1 : Below w.heap.size w w1 := hbw.trans (hb1.mono hbw.size)
 have f0 : ∀ p, (loadF (.pointer (some ⟨w.heap.size, 0, none⟩))).run Tryz.prog (Batch.grew w1 p) = .ok (.agg hc.toArray) (Batch.grew w1 p) := fun p => load_F (b1.below (Batch.grew_below w1 p)) hlen
 have f1 : ∀ p, (Batch.grew w1 p).cell? ⟨w.heap.size + 1, 0, none⟩ = some (.int .i64 (a : Int)) := fun p => (b2.below (Batch.grew_below w1 p)).cell 0
 have f2 : ∀ p, (Batch.grew w1 p).cell? ⟨w.heap.size + 1, 1, none⟩ = some (.int .i64 (b : Int)) := fun p => (b2.below (Batch.grew_below w1 p)).cell 1
 have i3 : w1.cell? ⟨w.heap.size + 1, 2, none⟩ = some (.int .i64 (c : Int)) := b2.cell 2
 clear l0 i2 HW B B1 b1 b2
 cases sh
 ·have HL : Sha.turn c m = z := hz1.out
  rw [HL]
  clear HL hz1
  go_wp2_with fail
  refine Batch.wp_region_grew (by kernel_rfl) (by kernel_rfl) ?_
  repeat (go_big_quiet_step (fail))
  go_big_quiet_step ((go_at_call 280; exact Batch.calls_grew (TURN.out a ha _)))
  repeat (go_big_quiet_step (fail))
  go_big_quiet_step ((go_at_call 280; exact Batch.calls_grew (TURN.out b hb _)))
  repeat (go_big_quiet_step (fail))
  refine wpQuiet_nil ?_
  rintro _ ⟨p, rfl⟩
  have hbp := Batch.grew_below w1 p
  generalize Batch.grew w1 p = w2 at *
  go_wp2
  go_ret
  exact ⟨ret_v (by rw [HM.out]; rfl), hbw1.trans (hbp.mono hbw1.size)⟩
 ·have HL : m / 2 ^ c = z := by rw [← hz1.out]; exact (Sha.down_eq c m).symm
  have hsh : (m : Int) / 2 ^ c = (z : Int) := by rw [← HL, Int.natCast_ediv, Int.natCast_pow]; rfl
  clear HL hz1
  go_wp2_with fail
  refine Batch.wp_region_grew (by kernel_rfl) (by kernel_rfl) ?_
  repeat (go_big_quiet_step (fail))
  go_big_quiet_step ((go_at_call 280; exact Batch.calls_grew (TURN.out a ha _)))
  repeat (go_big_quiet_step (fail))
  go_big_quiet_step ((go_at_call 280; exact Batch.calls_grew (TURN.out b hb _)))
  repeat (go_big_quiet_step (fail))
  refine wpQuiet_nil ?_
  rintro _ ⟨p, rfl⟩
  have hbp := Batch.grew_below w1 p
  generalize Batch.grew w1 p = w2 at *
  go_wp2
  go_ret
  exact ⟨ret_v (by rw [HM.out]; rfl), hbw1.trans (hbp.mono hbw1.size)⟩
theorem pcut_any (x : Int) (w : World) : Calls Tryz.prog 269 #[.int .u64 x] w fun e w' => e = .returned (.int .u32 (IntKind.u32.wrap x)) ∧ Below w.heap.size w w' := by
 go_enter Tryz.func269, Tryz.ntmps269
 go_wp2
 go_ret
 exact ⟨rfl, Below.refl _ _⟩
end Go.Proofs.YtmbpnkacggngkaaGreatDoor
end
section
namespace Go.Proofs.YtmbpnkacggngkaaGreatDoor
open Go.RowKit Mem
namespace Sha
def sch (b : List UInt8) (t : Nat) : List Nat := if t ≤ 16 then sched1 b t else sched2 b (t - 16)
theorem sch_len (b : List UInt8) (t : Nat) : (sch b t).length = t := by
 unfold sch
 split
 ·exact sched1_len b t
 ·rw [sched2_len]; omega
theorem sch_lo (b : List UInt8) {t : Nat} (h : t < 16) : sch b (t + 1) = sch b t ++ [wordIn b t 4] := by
 unfold sch
 rw [if_pos (by omega), if_pos (by omega)]
 rfl
theorem sch_hi (b : List UInt8) (u : Nat) : sch b (u + 16 + 1) = sch b (u + 16) ++ [next (sch b (u + 16)) u] := by
 have e : sch b (u + 16) = sched2 b u := by
  unfold sch
  split
  ·obtain rfl : u = 0 := by omega
   rfl
  ·rfl
 rw [e]
 unfold sch
 rw [if_neg (by omega)]
 rfl
theorem sch_32 (b : List UInt8) (t : Nat) : All32 (sch b t) := by
 unfold sch
 split
 ·exact sched1_32 b t
 ·exact sched2_32 b _
theorem sch_end (b : List UInt8) : sch b 64 = sched2 b 48 := rfl
end Sha
def uv (l : List Nat) : List Value := l.map fun x : Nat => Value.int .u32 (x : Int)
theorem uv_length (l : List Nat) : (uv l).length = l.length := by simp [uv]
theorem uv_at (l : List Nat) {k : Nat} (h : k < l.length) : (uv l)[k]? = some (.int .u32 ((l.getD k 0 : Nat) : Int)) := by simp [uv, h]
theorem uv_set (l : List Nat) (k : Nat) (x : Nat) : (uv l).set k (.int .u32 (x : Int)) = uv (l.set k x) := by simp [uv, List.map_set]
theorem uv_one (l : List Nat) : ∀ u ∈ uv l, u.oneCell' = true := by
 intro u hu
 simp only [uv, List.mem_map] at hu
 obtain ⟨b, _, rfl⟩ := hu
 rfl
theorem infoU : (Tryz.prog.info? 228).map (fun i => (i.zero, i.size, i.bytes)) = some (some (.int .u32 0), 1, 4) := by kernel_rfl
theorem makeU (w : World) (n : Nat) (h : n ≤ 100000) : (Instr.makeSlice 290 (.int .i64 (n : Int)) (.int .i64 (n : Int))).run Tryz.prog w = .ok (.slice (some ⟨w.heap.size, 0, none⟩) n n) (w.alloc (.cells (uv (List.replicate n 0)).toArray 228)) := by
 obtain ⟨i0, hi, hz0, hz1, hz2⟩ := info_parts infoU
 have hr := run_make (P := Tryz.prog) w 290 228 i0 _ Tryz.underlying290 hi hz0 .i64 .i64 (n : Int) (n : Int) (by omega) (by omega) (by rw [hz2]; omega) (by omega)
 rw [hz1] at hr
 rw [show (uv (List.replicate n 0)).toArray = madeCells (.int .u32 0 : Value).cells (n * 1) by rw [made_one _ rfl]; simp [uv]]
 exact hr
def fillM (ws : List Nat) (n : Nat) : List Nat := ws ++ List.replicate (n - ws.length) 0
theorem fillM_len (ws : List Nat) {n : Nat} (h : ws.length ≤ n) : (fillM ws n).length = n := by unfold fillM; simp; omega
theorem fillM_set (ws : List Nat) {n : Nat} (h : ws.length < n) (x : Nat) : (fillM ws n).set ws.length x = fillM (ws ++ [x]) n := by
 unfold fillM
 rw [List.set_append_right _ _ (Nat.le_refl _), Nat.sub_self, List.length_append]
 obtain ⟨d, hd⟩ : ∃ d, n - ws.length = d + 1 := ⟨n - ws.length - 1, by omega⟩
 rw [hd, List.replicate_succ, show n - (ws.length + [x].length) = d by simp; omega]
 simp
theorem fillM_get (ws : List Nat) {n k : Nat} (h : k < ws.length) : (fillM ws n).getD k 0 = ws.getD k 0 := by
 unfold fillM
 rw [List.getD_eq_getElem?_getD, List.getD_eq_getElem?_getD, List.getElem?_append_left h]
theorem fillM_zero (ws : List Nat) {n : Nat} (h : ws.length < n) : (fillM ws n).getD ws.length 0 = 0 := by
 unfold fillM
 rw [List.getD_eq_getElem?_getD, List.getElem?_append_right (Nat.le_refl _), Nat.sub_self]
 obtain ⟨d, hd⟩ : ∃ d, n - ws.length = d + 1 := ⟨n - ws.length - 1, by omega⟩
 rw [hd]
 rfl
theorem size_A3 : (Tryz.prog.info? 265).map (·.size) = some 3 := by kernel_rfl
def loadA3 (x : Value) : Sem Value := Instr.loadAt 265 x
theorem named_load_A3 (x : Value) : Instr.loadAt 265 x = loadA3 x := rfl
attribute [go_sem ↓] named_load_A3
theorem load_A3 {w : World} {g o : Nat} {a b c : Nat} {cs : List Value} {t : TypeId} (h : Blk w g cs t) (h0 : cs[o]? = some (.int .i64 (a : Int))) (h1 : cs[o + 1]? = some (.int .i64 (b : Int))) (h2 : cs[o + 2]? = some (.int .i64 (c : Int))) :
  (loadA3 (.pointer (some ⟨g, o, none⟩))).run Tryz.prog w = .ok (.agg #[.int .i64 (a : Int), .int .i64 (b : Int), .int .i64 (c : Int)]) w := by
 exact load_cells (P := Tryz.prog) (T := 265) (k := 3) Tryz.underlying265 rfl size_A3 (cs := [.int .i64 (a : Int), .int .i64 (b : Int), .int .i64 (c : Int)]) rfl fun j u hj => by
  rw [h.cell]
  match j, hj with
  | 0, hj => rw [← hj]; exact h0
  | 1, hj => rw [← hj]; exact h1
  | 2, hj => rw [← hj]; exact h2
  | j + 3, hj => simp at hj
theorem form32 : F32 formL := ⟨rfl, rfl, rfl, fun v hv => by
 simp only [formL, List.mem_cons, List.not_mem_nil, or_false] at hv
 rcases hv with rfl | rfl | rfl | rfl | rfl | rfl | rfl | rfl | rfl | rfl | rfl | rfl | rfl | rfl <;> rfl⟩
theorem word_step (b : List UInt8) (t k : Nat) (hk : k < 4) : bits .or .u32 ((Sha.wordIn b t k : Int) * 256 % 4294967296) (((b.getD (4 * t + k) 0).toNat : Nat) : Int) = ((Sha.wordIn b t (k + 1) : Nat) : Int) := by
 have h1 := Sha.wordIn_lt b t k
 have h2 := (b.getD (4 * t + k) 0).toNat_lt
 have h3 : (256 : Nat) ^ k ≤ 256 ^ 3 := Nat.pow_le_pow_right (by omega) (by omega)
 have e : (Sha.wordIn b t k : Int) * 256 % 4294967296 = ((2 ^ 8 * Sha.wordIn b t k : Nat) : Int) := by
  rw [Int.natCast_mul]
  have : ((2 ^ 8 : Nat) : Int) = 256 := rfl
  rw [this]
  omega
 rw [e, u32_or_nat _ _ (by omega) (by omega), ← Nat.two_pow_add_eq_or_of_lt (by omega)]
 show _ = ((Sha.wordIn b t k * 256 + (b.getD (4 * t + k) 0).toNat : Nat) : Int)
 omega
set_option maxRecDepth 100000 in
set_option maxHeartbeats 4000000 in
theorem prow_any (hc : List Value) (hF : hc = formL) (A : Option Addr) (c : Nat) (b : List UInt8) (w : World) (hb : Bs w w.heap.size A 64 b) (hcap : 64 ≤ c) :
  Calls Tryz.prog 276 #[.agg hc.toArray, .slice A 64 c] w fun e w' => ∃ g, e = .returned (.slice (some ⟨g, 0, none⟩) 64 64) ∧ w.heap.size ≤ g ∧ Blk w' g (uv (Sha.sched2 b 48)) 228 ∧ Below w.heap.size w w' := by
 have hf : F32 hc := by rw [hF]; exact form32
 have HF := Lib.hid hF
 clear hF
 have hbl := hb.len
 obtain ⟨blk, off, rfl, hblk, hx⟩ := vs_lit hb (by omega)
 obtain ⟨W, hW⟩ : ∃ W, w.alloc (.cells hc.toArray 269) = W := ⟨_, rfl⟩
 have B : Blk W w.heap.size hc 269 := by rw [← hW]; exact Blk.new _ _ _
 have hbw : Below w.heap.size w W := by rw [← hW]; exact (Below.refl _ _).alloc (Nat.le_refl _) _
 have hz : W.heap.size = w.heap.size + 1 := by rw [← hW]; simp
 have hbits := hf.bits
 have hmany := hf.many
 have hmk : (Instr.makeSlice 290 (.int .i64 64) (.int .i64 64)).run Tryz.prog W = _ := makeU W 64 (by omega)
 have BG := Blk.new W (uv (List.replicate 64 0)) 228
 have hb0 : Below w.heap.size w (W.alloc (.cells (uv (List.replicate 64 0)).toArray 228)) := hbw.alloc hbw.size _
 have B0 := B.alloc (.cells (uv (List.replicate 64 0)).toArray 228)
 rw [hz] at hmk BG
 have i0 : W.cell? ⟨w.heap.size, 0, none⟩ = some (.int .i64 32) := (B.cell 0).trans hbits
 have i1 : W.cell? ⟨w.heap.size, 1, none⟩ = some (.int .i64 64) := (B.cell 1).trans hmany
 have i2 : (W.alloc (.cells (uv (List.replicate 64 0)).toArray 228)).cell? ⟨w.heap.size, 0, none⟩ = some (.int .i64 32) := (B0.cell 0).trans hbits
 have HW := Lib.hid hW
 obtain ⟨W1, hW1⟩ : ∃ W1, W.alloc (.cells (uv (List.replicate 64 0)).toArray 228) = W1 := ⟨_, rfl⟩
 rw [hW1] at hmk BG hb0 B0 i2
 clear hW hW1
 go_enter Tryz.func276, Tryz.ntmps276
 go_upto_region 1 with fail
 rw [HW.out]
 clear HW
 go_wp2_with fail
 go_loopw [7, 9, 10, 11, 20] (fun _ _ _ _ i wr => ∃ t : Nat, t ≤ 64 ∧ i = .int .i64 (t : Int) ∧ Below w.heap.size w wr ∧ Blk wr w.heap.size hc 269 ∧ Blk wr (w.heap.size + 1) (uv (fillM (Sha.sch b t) 64)) 228) (fun _ _ _ _ i _ => 64 - (intOf i).toNat)
 case atStart => exact ⟨0, by omega, rfl, hb0, B0, BG⟩
 case round =>
  obtain ⟨t, ht, rfl, hbr, B1, B2⟩ := hrel
  obtain ⟨wy, hwy⟩ : ∃ wy, wy = wr := ⟨_, rfl⟩
  subst hwy
  by_cases hlt : t < 64
  ·by_cases h16 : t < 16
   ·have z0 : wy.cell? ⟨w.heap.size, 0, none⟩ = some (.int .i64 32) := (B1.cell 0).trans hbits
    have hsl := Sha.sch_len b t
    have hfl : (fillM (Sha.sch b t) 64).length = 64 := fillM_len _ (by omega)
    have hz0 : (fillM (Sha.sch b t) 64).set t (Sha.wordIn b t 0) = fillM (Sha.sch b t) 64 := by
     have := fillM_zero (Sha.sch b t) (n := 64) (by omega)
     rw [hsl] at this
     apply List.ext_getElem?
     intro i
     rw [List.getElem?_set]
     split
     ·rename_i hi
      subst hi
      rw [if_pos (by omega)]
      rw [List.getD_eq_getElem?_getD, List.getElem?_eq_getElem (by omega)] at this
      rw [List.getElem?_eq_getElem (by omega)]
      simp only [Option.getD_some] at this
      rw [this]
      rfl
     ·rfl
    have HS := Lib.hid (show fillM (Sha.sch b (t + 1)) 64 = (fillM (Sha.sch b t) 64).set t (Sha.wordIn b t 4) by
     rw [Sha.sch_lo b h16, ← fillM_set _ (by omega), hsl])
    go_wp2_with fail
    go_loopw [9, 35] (fun _ i wx => ∃ k : Nat, k ≤ 4 ∧ i = .int .i64 (k : Int) ∧ Below w.heap.size w wx ∧ Blk wx w.heap.size hc 269 ∧ Blk wx (w.heap.size + 1) (uv ((fillM (Sha.sch b t) 64).set t (Sha.wordIn b t k))) 228) (fun _ i _ => 4 - (intOf i).toNat)
    case atStart => exact ⟨0, by omega, rfl, hbr, B1, by rw [hz0]; exact B2⟩
    case round =>
     obtain ⟨k, hk, rfl, hbx, C1, C2⟩ := hrel
     by_cases hk4 : k < 4
     ·have hby : wr.cell? ⟨blk, off + t * 4 + k, none⟩ = some (.int .u8 (((b.getD (4 * t + k) 0).toNat : Nat) : Int)) := by
       rw [show off + t * 4 + k = off + (4 * t + k) by omega]
       exact (hbx.cell (p := ⟨blk, off + (4 * t + k), none⟩) hblk).trans (hx (4 * t + k) _ (by rw [bv_at, List.getElem?_eq_getElem (by omega)]; simp [List.getD_eq_getElem?_getD, List.getElem?_eq_getElem (show 4 * t + k < b.length by omega)]))
      have hcw : wr.cell? ⟨w.heap.size + 1, t, none⟩ = some (.int .u32 ((Sha.wordIn b t k : Nat) : Int)) := (C2.cell t).trans (by rw [uv_at _ (by rw [List.length_set]; omega)]; simp [List.getD_eq_getElem?_getD, hfl, hlt])
      have hcf : wr.frozen? ⟨w.heap.size + 1, t, none⟩ = false := C2.froz _
      have hws := word_step b t k hk4
      have hz256 := (b.getD (4 * t + k) 0).toNat_lt
      have hxlt : Sha.wordIn b t k < 16777216 := by
       have h1 := Sha.wordIn_lt b t k
       have h3 : (256 : Nat) ^ k ≤ 256 ^ 3 := Nat.pow_le_pow_right (by omega) (by omega)
       omega
      have E2 := (C2.set t (.int .u32 ((Sha.wordIn b t (k + 1) : Nat) : Int)))
      rw [uv_set, List.set_set] at E2
      generalize (b.getD (4 * t + k) 0).toNat = z at *
      generalize Sha.wordIn b t k = x at *
      have e256 : (x : Int) * 256 % 4294967296 = (x : Int) * 256 := by omega
      rw [e256] at hws
      clear e256
      obtain ⟨y, hy⟩ : ∃ y, Hid (Sha.wordIn b t (k + 1) = y) := ⟨_, Lib.hid rfl⟩
      rw [hy.out] at hws E2
      go_wp2_with fail
      go_roundw
      case rel => exact ⟨k + 1, by omega, by go_num, hbx.setCell (by simp) _, C1.set_ne (by simp) _, by rw [hy.out]; exact E2⟩
      case measure => simp [intOf]; omega
     ·obtain rfl : k = 4 := by omega
      go_wp2_with fail
      go_roundw
      case rel => exact ⟨t + 1, by omega, by go_num, hbx, C1, by rw [HS.out]; exact C2⟩
      case measure => simp [intOf]; omega
   ·have h16' : 16 ≤ t := by omega
    have hsl := Sha.sch_len b t
    have h32 := Sha.sch_32 b t
    have hfl : (fillM (Sha.sch b t) 64).length = 64 := fillM_len _ (by omega)
    have hat : ∀ k, k < t → wy.cell? ⟨w.heap.size + 1, k, none⟩ = some (.int .u32 (((Sha.sch b t).getD k 0 : Nat) : Int)) := fun k hk => (B2.cell k).trans (by rw [uv_at _ (by omega), fillM_get _ (by omega)])
    have hnx : Sha.sch b (t + 1) = Sha.sch b t ++ [Sha.next (Sha.sch b t) (t - 16)] := by
     have := Sha.sch_hi b (t - 16)
     rw [show t - 16 + 16 = t by omega] at this
     exact this
    have hE := fillM_set (Sha.sch b t) (n := 64) (by omega) (Sha.next (Sha.sch b t) (t - 16))
    rw [hsl, ← hnx] at hE
    have hnext : Sha.next (Sha.sch b t) (t - 16) = ((Sha.sch b t).getD (t - 16) 0 + Sha.sig0 ((Sha.sch b t).getD (t - 15) 0) + (Sha.sch b t).getD (t - 7) 0 + Sha.sig1 ((Sha.sch b t).getD (t - 2) 0)) % 4294967296 := by
     unfold Sha.next
     rw [show t - 16 + 1 = t - 15 by omega, show t - 16 + 9 = t - 7 by omega, show t - 16 + 14 = t - 2 by omega]
    have E2 : ∀ w', Blk w' (w.heap.size + 1) (uv (fillM (Sha.sch b t) 64)) 228 → Blk (w'.setCell ⟨w.heap.size + 1, t, none⟩ (.int .u32 ((Sha.next (Sha.sch b t) (t - 16) : Nat) : Int))) (w.heap.size + 1) (uv (fillM (Sha.sch b (t + 1)) 64)) 228 := fun w' h => by
     have := h.set t (.int .u32 ((Sha.next (Sha.sch b t) (t - 16) : Nat) : Int))
     rw [uv_set, hE] at this
     exact this
    rw [hnext] at E2
    have m15 := h32.at_ (t - 15)
    have m2 := h32.at_ (t - 2)
    have m16 := h32.at_ (t - 16)
    have m7 := h32.at_ (t - 7)
    have k15 := hat (t - 15) (by omega)
    have k2 := hat (t - 2) (by omega)
    have k16 := hat (t - 16) (by omega)
    have k7 := hat (t - 7) (by omega)
    have HE := Lib.hid E2
    have cf : wy.frozen? ⟨w.heap.size + 1, t, none⟩ = false := B2.froz _
    have hct : ∃ v, (uv (fillM (Sha.sch b t) 64))[t]? = some v := ⟨_, uv_at _ (by omega)⟩
    clear hat hnx hE hnext E2 hfl hsl h32
    generalize (Sha.sch b t).getD (t - 15) 0 = x15 at *
    generalize (Sha.sch b t).getD (t - 2) 0 = x2 at *
    generalize (Sha.sch b t).getD (t - 16) 0 = x16 at *
    generalize (Sha.sch b t).getD (t - 7) 0 = x7 at *
    have f0 : ∀ p, (loadF (.pointer (some ⟨w.heap.size, 0, none⟩))).run Tryz.prog (Batch.grew wy p) = .ok (.agg hc.toArray) (Batch.grew wy p) := fun p => load_F (B1.below (Batch.grew_below wy p)) hf.len
    have f1 : ∀ p, (loadA3 (.pointer (some ⟨w.heap.size, 8, none⟩))).run Tryz.prog (Batch.grew wy p) = .ok (.agg #[.int .i64 ((7 : Nat) : Int), .int .i64 ((18 : Nat) : Int), .int .i64 ((3 : Nat) : Int)]) (Batch.grew wy p) := fun p => load_A3 (B1.below (Batch.grew_below wy p)) (by rw [HF.out]; rfl) (by rw [HF.out]; rfl) (by rw [HF.out]; rfl)
    have f2 : ∀ p, (loadA3 (.pointer (some ⟨w.heap.size, 11, none⟩))).run Tryz.prog (Batch.grew wy p) = .ok (.agg #[.int .i64 ((17 : Nat) : Int), .int .i64 ((19 : Nat) : Int), .int .i64 ((10 : Nat) : Int)]) (Batch.grew wy p) := fun p => load_A3 (B1.below (Batch.grew_below wy p)) (by rw [HF.out]; rfl) (by rw [HF.out]; rfl) (by rw [HF.out]; rfl)
    have f3 : ∀ p, (Batch.grew wy p).cell? ⟨w.heap.size + 1, t - 15, none⟩ = some (.int .u32 (x15 : Int)) := fun p => (Batch.grew_cell (a := ⟨w.heap.size + 1, t - 15, none⟩) B2.lt p).trans k15
    have f4 : ∀ p, (Batch.grew wy p).cell? ⟨w.heap.size + 1, t - 2, none⟩ = some (.int .u32 (x2 : Int)) := fun p => (Batch.grew_cell (a := ⟨w.heap.size + 1, t - 2, none⟩) B2.lt p).trans k2
    have hA1 := fun p => pall_any hc hf 7 18 3 x15 m15 (by omega) (by omega) (by omega) true (Batch.grew wy p)
    have hA2 := fun p => pall_any hc hf 17 19 10 x2 m2 (by omega) (by omega) (by omega) true (Batch.grew wy p)
    have hs0 := Sha.mixed_lt m15 7 18 3 true
    have hs1 := Sha.mixed_lt m2 17 19 10 true
    have HE : Hid (∀ w', Blk w' (w.heap.size + 1) (uv (fillM (Sha.sch b t) 64)) 228 → Blk (w'.setCell ⟨w.heap.size + 1, t, none⟩ (.int .u32 (((x16 + Sha.mixed 7 18 3 true x15 + x7 + Sha.mixed 17 19 10 true x2) % 4294967296 : Nat) : Int))) (w.heap.size + 1) (uv (fillM (Sha.sch b (t + 1)) 64)) 228) := HE
    generalize Sha.mixed 7 18 3 true x15 = y0 at *
    generalize Sha.mixed 17 19 10 true x2 = y1 at *
    have HA1 := Lib.hid hA1
    have HA2 := Lib.hid hA2
    clear hA1 hA2
    go_upto_region 12 with fail
    refine Batch.wp_region_grew (by kernel_rfl) (by kernel_rfl) ?_
    repeat (go_big_quiet_step (fail))
    go_big_quiet_step ((go_at_call 277; exact Batch.calls_grew (HA1.out _)))
    repeat (go_big_quiet_step (fail))
    go_big_quiet_step ((go_at_call 277; exact Batch.calls_grew (HA2.out _)))
    repeat (go_big_quiet_step (fail))
    refine wpQuiet_nil ?_
    rintro _ ⟨p, rfl⟩
    have hp := Batch.grew_below wy p
    clear f0 f1 f2 f3 f4 HA1 HA2 k15 k2
    have D1 := B1.below hp
    have D2 := B2.below hp
    have hbp : Below w.heap.size w (Batch.grew wy p) := hbr.trans (hp.mono hbr.size)
    have q16 : ∀ p', (Batch.grew (Batch.grew wy p) p').cell? ⟨w.heap.size + 1, t - 16, none⟩ = some (.int .u32 (x16 : Int)) := fun p' => (Batch.grew_cell (a := ⟨w.heap.size + 1, t - 16, none⟩) D2.lt p').trans ((Batch.grew_cell (a := ⟨w.heap.size + 1, t - 16, none⟩) B2.lt p).trans k16)
    have q7 : ∀ p', (Batch.grew (Batch.grew wy p) p').cell? ⟨w.heap.size + 1, t - 7, none⟩ = some (.int .u32 (x7 : Int)) := fun p' => (Batch.grew_cell (a := ⟨w.heap.size + 1, t - 7, none⟩) D2.lt p').trans ((Batch.grew_cell (a := ⟨w.heap.size + 1, t - 7, none⟩) B2.lt p).trans k7)
    generalize Batch.grew wy p = wz at *
    obtain ⟨z, hz⟩ : ∃ z : Nat, (y0 + y1) % 4294967296 = z := ⟨_, rfl⟩
    have hzlt : z < 4294967296 := by omega
    have HC : Hid (∀ p', Calls Tryz.prog 269 #[.int .u64 ((y0 : Int) + (y1 : Int))] (Batch.grew wz p') fun e w' => e = .returned (.int .u32 (z : Int)) ∧ Below (Batch.grew wz p').heap.size (Batch.grew wz p') w') := Lib.hid fun p' => (pcut_any _ _).mono fun e w' ⟨he, hb⟩ => ⟨by rw [he, ← hz, IntKind.wrap_u32, Int.natCast_emod, Int.natCast_add]; rfl, hb⟩
    have HV : Hid (((((x16 : Int) + (x7 : Int)) + (z : Int)) % 4294967296 : Int) = (((x16 + y0 + x7 + y1) % 4294967296 : Nat) : Int)) := Lib.hid (by omega)
    clear hz
    go_upto_region 13 with fail
    refine Batch.wp_region_grew_tail 18 (by kernel_rfl) (by kernel_rfl) ?_
    simp only [List.take_succ_cons, List.take_zero, List.drop_succ_cons, List.drop_zero]
    repeat (go_big_quiet_step (fail))
    go_big_quiet_step ((go_at_call 269; exact Batch.calls_grew (HC.out _)))
    repeat (go_big_quiet_step (fail))
    refine wpQuiet_nil ?_
    rintro _ ⟨px, rfl⟩
    have hpx := Batch.grew_below wz px
    have F1 := D1.below hpx
    have F2 := D2.below hpx
    have cf : (Batch.grew wz px).frozen? ⟨w.heap.size + 1, t, none⟩ = false := F2.froz _
    have hbx : Below w.heap.size w (Batch.grew wz px) := hbp.trans (hpx.mono hbp.size)
    have hlt4 := F2.lt
    obtain ⟨vt, hvt⟩ := hct
    have hct : (Batch.grew wz px).cell? ⟨w.heap.size + 1, t, none⟩ = some vt := (F2.cell t).trans hvt
    clear hvt
    clear q16 q7 HC D1 D2
    generalize Batch.grew wz px = w4 at *
    have G2 := Lib.hid (HE.out w4 F2)
    go_wp2_with fail
    (try rw [Batch.Qn_normal])
    (try go_wp2)
    go_roundw
    case rel => exact ⟨t + 1, by omega, by go_num, hbx.setCell (by simp) _, F1.set_ne (by simp) _, by first | exact G2.out | (rw [HV.out]; exact G2.out)⟩
    case measure => simp [intOf]; omega
  ·obtain rfl : t = 64 := by omega
   go_wp2_with fail
   go_ret
   refine ⟨_, rfl, by omega, ?_, hbr⟩
   have : fillM (Sha.sch b 64) 64 = Sha.sched2 b 48 := by
    rw [Sha.sch_end]
    unfold fillM
    rw [Sha.sched2_len]
    simp
   rw [this] at B2
   exact B2
end Go.Proofs.YtmbpnkacggngkaaGreatDoor
end
