/- THE WALK of an operation that is read. -/
import Derived.Test.YtmbpnkacggngkaaGreatDoorLedOpW
import Derived.Test.YtmbpnkacggngkaaGreatDoorLedStepR
import Derived.Deep.CutBlock
import Derived.Deep.DeepCutAuto
namespace Go.Proofs.YtmbpnkacggngkaaGreatDoor
open Go.RowKit Mem Led

/-- No operation. -/
def noOp : Led.Op := ⟨0, 0, [], ⟨0, [], [], 0, []⟩, ⟨[], [], 0, false⟩, ⟨[], [], 0, 0, []⟩, ⟨[], [], 0, 0⟩, ⟨[], 0, []⟩⟩
theorem Rd.other {w w' : World} {B gc : Nat} {s : St} {S : List Nat} (h : Rd w B gc s) (hc : Chg S w w') (hg : gc ∉ S) (hS : ∀ b, b ∈ S → B ≤ b) : Rd w' B gc s := h.chg hc hg hS
/-- What reading an operation leaves. -/
def ReadOp (B gc go : Nat) (T : TypeId) (s : St) (w w' : World) : Prop :=
  Rd w' B gc (rop s).2 ∧ Chg [gc, go] w w' ∧ ∃ gs gk n m, w.heap.size ≤ gs ∧ w.heap.size ≤ gk ∧ Blk w' go (opCells (rop s).1 (.slice (some ⟨gs, 0, none⟩) n n) (.slice (some ⟨gk, 0, none⟩) m m)) T ∧
    n < 256 ∧ m < 256 ∧ Blk w' gs ((rop s).1.entry.sels.map tx) 9 ∧ Blk w' gk (jv (rop s).1.bundle.keys) 54 ∧ (rop s).1.entry.sels.length = n ∧ (rop s).1.bundle.keys.length = m
/-- The cells from n on are as they were. -/
def Rest (n : Nat) (C : List Value) : Prop := C.length = 24 ∧ ∀ k, n ≤ k → k < 24 → C[k]? = (opCells noOp (.slice none 0 0) (.slice none 0 0))[k]?
theorem Rest.set {n : Nat} {C : List Value} (h : Rest n C) (n' k : Nat) (v : Value) (hk : k < n') (hn : n ≤ n') : Rest n' (C.set k v) :=
  ⟨by rw [List.length_set]; exact h.1, fun j hj hj2 => by rw [List.getElem?_set_ne (by omega)]; exact h.2 j (by omega) hj2⟩
theorem Rest.at_ {n : Nat} {C : List Value} (h : Rest n C) (k : Nat) (hn : n ≤ k) (hk : k < 24) : C[k]? = (opCells noOp (.slice none 0 0) (.slice none 0 0))[k]? := h.2 k hn hk
theorem late_len (u : Int) (s : St) : (late u s).1.length ≤ s.1.length := Nat.le_refl _
theorem rkey_len (s : St) : (rkey s).2.1.length ≤ s.1.length := Nat.le_trans (rtext_len _) (rtext_len _)
def txs (L : List Txt) : List Value := L.map tx
theorem txs_at (L : List Txt) (n : Nat) (h : L.length < n) : (txs L ++ List.replicate (n - L.length) (tx []))[L.length]? = some (tx []) := by
  rw [List.getElem?_append_right (by simp [txs]), List.getElem?_replicate, if_pos (by simp [txs]; omega)]
theorem txs_set (L : List Txt) (x : Txt) (n : Nat) (h : L.length < n) : (txs L ++ List.replicate (n - L.length) (tx [])).set L.length (tx x) = txs (L ++ [x]) ++ List.replicate (n - (L.length + 1)) (tx []) := by
  have e : n - L.length = (n - (L.length + 1)) + 1 := by omega
  rw [e, List.replicate_succ, List.set_append_right _ _ (by simp [txs])]
  simp [txs]
theorem jvs_at (L : List Jwk) (n : Nat) (h : L.length < n) (k : Nat) (hk : k < 2) : (jv L ++ List.replicate ((n - L.length) * 2) (tx []))[L.length * 2 + k]? = some (tx []) := by
  rw [List.getElem?_append_right (by rw [jv_length]; omega), List.getElem?_replicate, if_pos (by rw [jv_length]; omega)]
theorem jv_snoc (L : List Jwk) (k : Jwk) : jv (L ++ [k]) = jv L ++ [tx k.kid, tx k.x] := by simp [jv]
theorem jvs_set (L : List Jwk) (k : Jwk) (n : Nat) (h : L.length < n) : ((jv L ++ List.replicate ((n - L.length) * 2) (tx [])).set (L.length * 2) (tx k.kid)).set (L.length * 2 + 1) (tx k.x) = jv (L ++ [k]) ++ List.replicate ((n - (L.length + 1)) * 2) (tx []) := by
  have e : (n - L.length) * 2 = (n - (L.length + 1)) * 2 + 1 + 1 := by omega
  rw [e, List.replicate_succ, List.replicate_succ, List.set_append_right _ _ (by rw [jv_length]; omega), jv_length, Nat.sub_self, List.set_cons_zero, List.set_append_right _ _ (by rw [jv_length]; omega), jv_length, jv_snoc]
  rw [show L.length * 2 + 1 - L.length * 2 = 1 by omega]
  simp
set_option maxRecDepth 100000 in
set_option maxHeartbeats 8000000 in
theorem opr_any (B gc go : Nat) (T : TypeId) (s : St) {w : World} (h : Rd w B gc s) (hb : Blk w go (opCells noOp (.slice none 0 0) (.slice none 0 0)) T) (hg : go ≠ gc) (hB : B ≤ go) (hl : s.1.length ≤ 140737488355328) :
    Calls Tryz.prog 35 #[.pointer (some ⟨gc, 0, none⟩), .pointer (some ⟨go, 0, none⟩)] w fun e w' => e = .returned (.tuple #[]) ∧ ReadOp B gc go T s w w' := by
  obtain ⟨C0, HC0, hC0⟩ : ∃ C, Hid (opCells noOp (.slice none 0 0) (.slice none 0 0) = C) ∧ Rest 0 C := ⟨_, Lib.hid rfl, rfl, fun _ _ _ => rfl⟩
  rw [HC0.out] at hb
  have hgl := h.glt
  have hwl := hb.lt
  have c0 : Chg [gc, go] w w := Chg.refl _ _
  have q0 := numr_lit 1 1 rfl (by omega) go 0 h hb (by rw [hC0.1]; omega) hg hB hl
  have n0 := rnum_len 1 s
  unfold ReadNum at q0
  obtain ⟨a0, E0⟩ : ∃ a, Hid (rnum 1 s = a) := ⟨_, Lib.hid rfl⟩
  rw [E0.out] at q0 n0
  go_enter Tryz.func35, Tryz.ntmps35
  go_wp2_with fail
  refine q0.mono ?_
  rintro e w0 ⟨rfl, r0, b0, c1⟩
  obtain ⟨C1, HC1, hC1⟩ : ∃ C, Hid ((C0.set 0 (.int .i64 a0.1)) = C) ∧ Rest 1 C := ⟨_, Lib.hid rfl, (hC0.set 1 0 (.int .i64 a0.1) (by omega) (by omega))⟩
  rw [HC1.out] at b0
  clear hC0
  have cc0 := c0.and c1
  clear q0 h hb c0 c1
  have q1 := rnum1_step go 1 r0 b0 (by rw [hC1.1]; omega) hg hB (by omega)
  have n1 := rnum_len 8 (a0.2)
  obtain ⟨a1, E1⟩ : ∃ a, Hid (rnum 8 (a0.2) = a) := ⟨_, Lib.hid rfl⟩
  rw [E1.out] at q1 n1
  go_wp2_with fail
  refine q1.mono ?_
  rintro e w1 ⟨rfl, r1, b1, c1⟩
  obtain ⟨C2, HC2, hC2⟩ : ∃ C, Hid ((C1.set 1 (.int .i64 a1.1)) = C) ∧ Rest 2 C := ⟨_, Lib.hid rfl, (hC1.set 2 1 (.int .i64 a1.1) (by omega) (by omega))⟩
  rw [HC2.out] at b1
  clear hC1
  have cc1 := cc0.and c1
  clear q1 r0 b0 c1 cc0
  have q2 := rtext1_step go 2 r1 b1 ((hC2.at_ 2 (by omega) (by omega)).trans rfl) hg hB (by omega)
  have n2 := rtext_len (a1.2)
  obtain ⟨a2, E2⟩ : ∃ a, Hid (rtext (a1.2) = a) := ⟨_, Lib.hid rfl⟩
  rw [E2.out] at q2 n2
  go_wp2_with fail
  refine q2.mono ?_
  rintro e w2 ⟨rfl, r2, b2, c2⟩
  obtain ⟨C3, HC3, hC3⟩ : ∃ C, Hid ((C2.set 2 (.string (str a2.1))) = C) ∧ Rest 3 C := ⟨_, Lib.hid rfl, (hC2.set 3 2 (.string (str a2.1)) (by omega) (by omega))⟩
  rw [HC3.out] at b2
  clear hC2
  have cc2 := cc1.and c2
  clear q2 r1 b1 c2 cc1
  have q3 := rnum1_step go 3 r2 b2 (by rw [hC3.1]; omega) hg hB (by omega)
  have n3 := rnum_len 8 (a2.2)
  obtain ⟨a3, E3⟩ : ∃ a, Hid (rnum 8 (a2.2) = a) := ⟨_, Lib.hid rfl⟩
  rw [E3.out] at q3 n3
  go_wp2_with fail
  refine q3.mono ?_
  rintro e w3 ⟨rfl, r3, b3, c3⟩
  obtain ⟨C4, HC4, hC4⟩ : ∃ C, Hid ((C3.set 3 (.int .i64 a3.1)) = C) ∧ Rest 4 C := ⟨_, Lib.hid rfl, (hC3.set 4 3 (.int .i64 a3.1) (by omega) (by omega))⟩
  rw [HC4.out] at b3
  clear hC3
  have cc3 := cc2.and c3
  clear q3 r2 b2 c3 cc2
  have q4 := rtext2_step go 4 5 r3.drew b3.drew ((hC4.at_ 4 (by omega) (by omega)).trans rfl) ((hC4.at_ 5 (by omega) (by omega)).trans rfl) (by omega) hg hB (by omega)
  have n4 := rtext_len (a3.2)
  obtain ⟨a4, E4⟩ : ∃ a, Hid (rtext (a3.2) = a) := ⟨_, Lib.hid rfl⟩
  rw [E4.out] at q4 n4
  have n5 := rtext_len (a4.2)
  obtain ⟨a5, E5⟩ : ∃ a, Hid (rtext (a4.2) = a) := ⟨_, Lib.hid rfl⟩
  rw [E5.out] at q4 n5
  go_wp2_with fail
  go_region_with (go_at_call 67; refine q4.mono ?_; rintro e w4 ⟨rfl, r4, b4, c4⟩)
  obtain ⟨C5, HC5, hC5⟩ : ∃ C, Hid (((C4.set 4 (.string (str a4.1))).set 5 (.string (str a5.1))) = C) ∧ Rest 6 C := ⟨_, Lib.hid rfl, ((hC4.set 6 4 (.string (str a4.1)) (by omega) (by omega)).set 6 5 (.string (str a5.1)) (by omega) (by omega))⟩
  rw [HC5.out] at b4
  clear hC4
  have cc4 := cc3.drew.and c4
  clear q4 r3 b3 c4 cc3
  have q5 := rnum1_step go 6 r4 b4 (by rw [hC5.1]; omega) hg hB (by omega)
  have n6 := rnum_len 8 (a5.2)
  obtain ⟨a6, E6⟩ : ∃ a, Hid (rnum 8 (a5.2) = a) := ⟨_, Lib.hid rfl⟩
  rw [E6.out] at q5 n6
  go_wp2_with fail
  refine q5.mono ?_
  rintro e w5 ⟨rfl, r5, b5, c5⟩
  obtain ⟨C6, HC6, hC6⟩ : ∃ C, Hid ((C5.set 6 (.int .i64 a6.1)) = C) ∧ Rest 7 C := ⟨_, Lib.hid rfl, (hC5.set 7 6 (.int .i64 a6.1) (by omega) (by omega))⟩
  rw [HC6.out] at b5
  clear hC5
  have cc5 := cc4.and c5
  clear q5 r4 b4 c5 cc4
  have q6 := manySr_any go 7 r5 b5 ((hC6.at_ 7 (by omega) (by omega)).trans rfl) hg hB (by omega)
  have n7 := rnum_len 1 (a6.2)
  unfold ReadMany at q6
  obtain ⟨a7, E7⟩ : ∃ a, Hid (rnum 1 (a6.2) = a) := ⟨_, Lib.hid rfl⟩
  rw [E7.out] at q6 n7
  go_wp2_with fail
  refine q6.mono ?_
  rintro e w6 ⟨rfl, r6, c6, gS, mS, hmS, hlS, hzS, kS, b6⟩
  have cc6 := cc5.and c6
  have hw6 := cc5.size
  have hw6b := c6.size
  have d6 : w6.cell? ⟨go, 7, none⟩ = some (.slice (some ⟨gS, 0, none⟩) mS mS) := (b6.cell 7).trans (by rw [List.getElem?_set_self (by rw [hC6.1]; omega)])
  obtain ⟨C7, HC7, hC7⟩ : ∃ C, Hid ((C6.set 7 (.slice (some ⟨gS, 0, none⟩) mS mS)) = C) ∧ Rest 8 C := ⟨_, Lib.hid rfl, (hC6.set 8 7 (.slice (some ⟨gS, 0, none⟩) mS mS) (by omega) (by omega))⟩
  rw [HC7.out] at b6
  clear hC6
  clear q6 r5 b5 cc5 c6
  have gne1 : gS ≠ go := by omega
  have gne2 : gS ≠ gc := by omega
  have gB : B ≤ gS := by omega
  have gSl := kS.lt
  have hbl7 := b6.lt
  go_wp2
  have d7 := d6
  go_loopw [4, 61] (fun _ i wr => ∃ j : Nat, j ≤ mS ∧ i = .int .i64 j ∧ Rd wr B gc (reach rtext j a7.2).2 ∧ Blk wr gS (txs (reach rtext j a7.2).1 ++ List.replicate (mS - j) (tx [])) 9 ∧ Chg [gc, gS] w6 wr) (fun _ i _ => mS - (intOf i).toNat)
  case atStart => exact ⟨0, by omega, rfl, r6, by simpa [txs, reach, tx] using kS, Chg.refl _ _⟩
  case round =>
    obtain ⟨j, hj, rfl, rr, kr, cr⟩ := hrel
    have dr : wr.cell? ⟨go, 7, none⟩ = some (.slice (some ⟨gS, 0, none⟩) mS mS) := (cr.cell (p := ⟨go, 7, none⟩) hbl7 (by simp [hg]; omega)).trans d7
    by_cases hlt : j < mS
    · have hlj := reach_length rtext j (a7.2)
      have hln := reach_len (f := rtext) rtext_len j (a7.2)
      have hsn := reach_snoc rtext j (a7.2)
      have hat := txs_at (reach rtext j (a7.2)).1 mS (by omega)
      have hset := fun x => txs_set (reach rtext j (a7.2)).1 x mS (by omega)
      have HSN := Lib.hid hsn
      have HSET := Lib.hid hset
      rw [hlj] at hat hset
      have q := textr_any gS j rr kr hat gne2 gB (by omega)
      unfold ReadText at q
      have HSET := Lib.hid hset
      clear hsn hset hat
      generalize reach rtext j (a7.2) = rj at *
      go_wp2_with fail
      refine q.mono ?_
      rintro e w2 ⟨rfl, rr2, kr2, cr2⟩
      have kr3 := kr2
      rw [show (.string (str (rtext rj.2).1) : Value) = tx (rtext rj.2).1 from rfl, HSET.out] at kr3
      have cr3 := cr.and cr2
      clear q kr kr2 rr cr cr2
      go_wp2
      go_roundw
      case rel => exact ⟨j + 1, by omega, by go_num, by rw [HSN.out]; exact rr2, by rw [HSN.out]; exact kr3, cr3⟩
      case measure => simp [intOf]; omega
    · obtain rfl : j = mS := by omega
      rw [Nat.sub_self, List.replicate_zero, List.append_nil] at kr
      have n8 := reach_len (f := rtext) rtext_len j (a7.2)
      have hlS := reach_length rtext j (a7.2)
      have br := b6.chg cr (by simp [hg]; omega)
      have ccr := (cc6.mono (S' := [gc, go]) (by simp)).trans cr (by
        intro s hs
        simp at hs
        rcases hs with rfl | rfl
        · exact .inl (by simp)
        · exact .inr (Nat.le_trans hw6 hzS))
      obtain ⟨a77, E77⟩ : ∃ a, Hid (reach rtext j (a7.2) = a) := ⟨_, Lib.hid rfl⟩
      rw [E77.out] at rr kr n8 hlS
      clear r6 b6 cc6 cr kS d7 dr
      have df : ∀ ob, (wr.alloc ob).cell? ⟨go, 11, none⟩ = some (.bool false) := fun ob => ((br.alloc ob).cell 11).trans ((hC7.at_ 11 (by omega) (by omega)).trans rfl)
      obtain ⟨gu, hgu⟩ : ∃ gu, wr.heap.size = gu := ⟨_, rfl⟩
      obtain ⟨wu, hwu⟩ : ∃ wu, wr.alloc (.cells #[.int .i64 0] 3) = wu := ⟨_, rfl⟩
      have hcu : Chg [] wr wu := by rw [← hwu]; exact (Chg.refl _ _).alloc _
      have bu : Blk wu gu [.int .i64 0] 3 := by rw [← hwu, ← hgu]; exact Blk.new wr [.int .i64 0] 3
      have ru := rr.chg hcu (by simp) (by simp)
      have br2 := br.chg hcu (by simp)
      have kr2 := kr.chg hcu (by simp)
      have ccu := ccr.and (hcu.mono (S' := [gc, go]) (by simp))
      have hzu := hcu.size
      have hzr := ccr.size
      have hrl := rr.glt
      have hkl := kr.lt
      have hbl := br.lt
      have HWU := Lib.hid hwu
      have HGU := Lib.hid hgu
      have hug : go ≠ gu := by omega
      have huc : gu ≠ gc := by omega
      have huS : gS ≠ gu := by omega
      have huB : B ≤ gu := by omega
      have huw : w.heap.size ≤ gu := by omega
      clear hwu hgu hcu rr br kr ccr
      go_wp2_with fail
      rw [HWU.out, HGU.out]
      clear HWU HGU df
      have q7 := rtext2_step go 8 9 ru.drew br2.drew ((hC7.at_ 8 (by omega) (by omega)).trans rfl) ((hC7.at_ 9 (by omega) (by omega)).trans rfl) (by omega) hg hB (by omega)
      have n8 := rtext_len (a77.2)
      obtain ⟨a8, E8⟩ : ∃ a, Hid (rtext (a77.2) = a) := ⟨_, Lib.hid rfl⟩
      rw [E8.out] at q7 n8
      have n9 := rtext_len (a8.2)
      obtain ⟨a9, E9⟩ : ∃ a, Hid (rtext (a8.2) = a) := ⟨_, Lib.hid rfl⟩
      rw [E9.out] at q7 n9
      go_region_with (go_at_call 67; refine q7.mono ?_; rintro e w7 ⟨rfl, r7, b7, c7⟩)
      obtain ⟨C8, HC8, hC8⟩ : ∃ C, Hid (((C7.set 8 (.string (str a8.1))).set 9 (.string (str a9.1))) = C) ∧ Rest 10 C := ⟨_, Lib.hid rfl, ((hC7.set 10 8 (.string (str a8.1)) (by omega) (by omega)).set 10 9 (.string (str a9.1)) (by omega) (by omega))⟩
      rw [HC8.out] at b7
      clear hC7
      have c7k := (Chg.refl [gc, go] _).drew.and c7
      have cc7 := ccu.drew.and c7
      clear q7 ru br2 c7 ccu
      have kr3 := kr2.chg (S := [gc, go]) c7k (by simp [gne1, gne2])
      have bu3 := bu.chg (S := [gc, go]) c7k (by simp [huc, Ne.symm hug])
      have q8 := rnum2b_step go 10 gu r7 b7 (by rw [hC8.1]; omega) bu3 hg huc hug hB huB (by omega)
      have n10 := rnum_len 8 (a9.2)
      obtain ⟨a10, E10⟩ : ∃ a, Hid (rnum 8 (a9.2) = a) := ⟨_, Lib.hid rfl⟩
      rw [E10.out] at q8 n10
      have n99 := rnum_len 8 (a10.2)
      obtain ⟨a99, E99⟩ : ∃ a, Hid (rnum 8 (a10.2) = a) := ⟨_, Lib.hid rfl⟩
      rw [E99.out] at q8 n99
      go_wp2_with fail
      refine q8.mono ?_
      rintro e w8 ⟨rfl, r8, b8, u8x, c8⟩
      have kr4 := kr3.chg c8 (by simp [gne1, gne2, huS])
      have cc8 := cc7.trans c8 (by
        intro s hs
        simp at hs
        rcases hs with rfl | rfl | rfl
        · exact .inl (by simp)
        · exact .inl (by simp)
        · exact .inr huw)
      clear q8 r7 b7 c8 cc7 bu bu3 kr2 kr3
      obtain ⟨C9, HC9, hC9⟩ : ∃ C, Hid ((C8.set 10 (.int .i64 a10.1)) = C) ∧ Rest 11 C := ⟨_, Lib.hid rfl, (hC8.set 11 10 (.int .i64 a10.1) (by omega) (by omega))⟩
      rw [HC9.out] at b8
      clear hC8
      obtain ⟨uu, l9, sh⟩ := a99
      dsimp only at *
      obtain ⟨A, cn, cp, z1, z2, z3⟩ := r8.ex
      have y0 : w8.cell? ⟨gu, 0, none⟩ = some (.int .i64 uu) := u8x.cell 0
      have y1 : w8.cell? ⟨go, 11, none⟩ = some (.bool false) := (b8.cell 11).trans ((hC9.at_ 11 (by omega) (by omega)).trans rfl)
      have y2 : w8.frozen? ⟨go, 11, none⟩ = false := b8.froz 11
      go_upto_region 18 with fail
      obtain ⟨wy, hwy⟩ : ∃ wy, w8.setCell ⟨go, 11, none⟩ (.bool (uu == 1)) = wy := ⟨_, rfl⟩
      have x0 : wy.cell? ⟨gu, 0, none⟩ = some (.int .i64 uu) := by rw [← hwy]; exact (u8x.set_ne (p := ⟨go, 11, none⟩) (Ne.symm hug) _).cell 0
      have x1 : Blk wy gc [.slice A cn cp, .bool true, .bool sh] 86 := by rw [← hwy]; exact z1.set_ne (p := ⟨go, 11, none⟩) (Ne.symm hg) _
      have x2 : wy.cell? ⟨gc, 2, none⟩ = some (.bool sh) := x1.cell 2
      have x3 : wy.frozen? ⟨gc, 2, none⟩ = false := x1.froz 2
      have x4 : Blk wy go (C9.set 11 (.bool (uu == 1))) T := by rw [← hwy]; exact b8.set 11 _
      have x5 : Blk wy gS (txs a77.1) 9 := by rw [← hwy]; exact kr4.set_ne (p := ⟨go, 11, none⟩) gne1 _
      have x6 : Chg [gc, go] w wy := by rw [← hwy]; exact cc8.setCell (.inl (by simp)) _
      have x7 : Bs wy B A cn l9 := by rw [← hwy]; exact z3.keep fun p hp => World.cell?_setCell_other _ _ _ _ (fun e => by subst e; simp only [] at hp; omega)
      have hBc := r8.lt
      rw [hwy]
      have X1 := Lib.hid x1; have X4 := Lib.hid x4; have X5 := Lib.hid x5; have X6 := Lib.hid x6; have X7 := Lib.hid x7
      clear hwy y0 y1 y2 r8 cc8 z1 z3 kr4 b8 x1 x4 x5 x6 x7 u8x
      go_cut [] (fun wx => Rd wx B gc (late uu (l9, sh)) ∧ Blk wx go (C9.set 11 (.bool (uu == 1))) T ∧ Blk wx gS (txs a77.1) 9 ∧ Chg [gc, go] w wx)
      case first =>
        have hfin : ∀ b : Bool, b = (sh || decide (uu > 1) || decide (uu < 0)) → Rd (wy.setCell ⟨gc, 2, none⟩ (.bool b)) B gc (late uu (l9, sh)) ∧ Blk (wy.setCell ⟨gc, 2, none⟩ (.bool b)) go (C9.set 11 (.bool (uu == 1))) T ∧ Blk (wy.setCell ⟨gc, 2, none⟩ (.bool b)) gS (txs a77.1) 9 ∧ Chg [gc, go] w (wy.setCell ⟨gc, 2, none⟩ (.bool b)) := by
          rintro b rfl
          exact ⟨⟨⟨A, cn, cp, X1.out.set 2 _, z2, X7.out.keep fun p hp => World.cell?_setCell_other _ _ _ _ (fun e => by subst e; simp only [] at hp; omega)⟩, hBc⟩, X4.out.set_ne (p := ⟨gc, 2, none⟩) hg _, X5.out.set_ne (p := ⟨gc, 2, none⟩) gne2 _, X6.out.setCell (.inl (by simp)) _⟩
        have HF := Lib.hid hfin
        clear hfin X1 X4 X5 X6 X7
        cases sh
        · by_cases g1 : uu > 1
          · have g1b : decide ((1 : Int) < uu) = true := decide_eq_true g1
            go_wp2_with fail
            go_meet
            case rel => exact HF.out _ (by simp [g1])
          · have g1b : decide ((1 : Int) < uu) = false := decide_eq_false g1
            by_cases g2 : uu < 0
            · have g2b : decide (uu < 0) = true := decide_eq_true g2
              go_wp2_with fail
              go_meet
              case rel => exact HF.out _ (by simp [g2])
            · have g2b : decide (uu < 0) = false := decide_eq_false g2
              go_wp2_with fail
              go_meet
              case rel => exact HF.out _ (by simp [g1, g2])
        · go_wp2_with fail
          go_meet
          case rel => exact HF.out _ (by simp)
      case rest =>
        obtain ⟨rw_, bq9, kq9, cq9⟩ := hcut
        have n99b : (late uu (l9, sh)).1.length ≤ l9.length := Nat.le_refl _
        obtain ⟨a98, E98⟩ : ∃ a, Hid (late uu (l9, sh) = a) := ⟨_, Lib.hid rfl⟩
        rw [E98.out] at rw_ n99b
        have d0 : Chg [gc, go] wc wc := Chg.refl _ _
        have hzc := cq9.size
        clear x0 x2 x3 z2
        obtain ⟨C10, HC10, hC10⟩ : ∃ C, Hid ((C9.set 11 (.bool (uu == 1))) = C) ∧ Rest 12 C := ⟨_, Lib.hid rfl, (hC9.set 12 11 (.bool (uu == 1)) (by omega) (by omega))⟩
        rw [HC10.out] at bq9
        clear hC9
        have q9 := rtext2_step go 12 13 rw_.drew bq9.drew ((hC10.at_ 12 (by omega) (by omega)).trans rfl) ((hC10.at_ 13 (by omega) (by omega)).trans rfl) (by omega) hg hB (by omega)
        have n12 := rtext_len (a98)
        obtain ⟨a12, E12⟩ : ∃ a, Hid (rtext (a98) = a) := ⟨_, Lib.hid rfl⟩
        rw [E12.out] at q9 n12
        have n13 := rtext_len (a12.2)
        obtain ⟨a13, E13⟩ : ∃ a, Hid (rtext (a12.2) = a) := ⟨_, Lib.hid rfl⟩
        rw [E13.out] at q9 n13
        go_wp2_with fail
        go_region_with (go_at_call 67; refine q9.mono ?_; rintro e w9 ⟨rfl, r9, b9, c9⟩)
        obtain ⟨C11, HC11, hC11⟩ : ∃ C, Hid (((C10.set 12 (.string (str a12.1))).set 13 (.string (str a13.1))) = C) ∧ Rest 14 C := ⟨_, Lib.hid rfl, ((hC10.set 14 12 (.string (str a12.1)) (by omega) (by omega)).set 14 13 (.string (str a13.1)) (by omega) (by omega))⟩
        rw [HC11.out] at b9
        clear hC10
        have cc9 := d0.drew.and c9
        clear q9 rw_ bq9 c9 d0
        have q10 := rnum2_step go 14 15 r9.drew b9.drew (by rw [hC11.1]; omega) (by rw [hC11.1]; omega) hg hB (by omega)
        have n14 := rnum_len 8 (a13.2)
        obtain ⟨a14, E14⟩ : ∃ a, Hid (rnum 8 (a13.2) = a) := ⟨_, Lib.hid rfl⟩
        rw [E14.out] at q10 n14
        have n15 := rnum_len 8 (a14.2)
        obtain ⟨a15, E15⟩ : ∃ a, Hid (rnum 8 (a14.2) = a) := ⟨_, Lib.hid rfl⟩
        rw [E15.out] at q10 n15
        go_wp2_with fail
        go_region_with (go_at_call 66; refine q10.mono ?_; rintro e w10 ⟨rfl, r10, b10, c10⟩)
        obtain ⟨C12, HC12, hC12⟩ : ∃ C, Hid (((C11.set 14 (.int .i64 a14.1)).set 15 (.int .i64 a15.1)) = C) ∧ Rest 16 C := ⟨_, Lib.hid rfl, ((hC11.set 16 14 (.int .i64 a14.1) (by omega) (by omega)).set 16 15 (.int .i64 a15.1) (by omega) (by omega))⟩
        rw [HC12.out] at b10
        clear hC11
        have cc10 := cc9.drew.and c10
        clear q10 r9 b9 c10 cc9
        have q11 := rtext3_step go 16 17 18 r10.drew b10.drew ((hC12.at_ 16 (by omega) (by omega)).trans rfl) ((hC12.at_ 17 (by omega) (by omega)).trans rfl) ((hC12.at_ 18 (by omega) (by omega)).trans rfl) (by omega) (by omega) (by omega) hg hB (by omega)
        have n16 := rtext_len (a15.2)
        obtain ⟨a16, E16⟩ : ∃ a, Hid (rtext (a15.2) = a) := ⟨_, Lib.hid rfl⟩
        rw [E16.out] at q11 n16
        have n17 := rtext_len (a16.2)
        obtain ⟨a17, E17⟩ : ∃ a, Hid (rtext (a16.2) = a) := ⟨_, Lib.hid rfl⟩
        rw [E17.out] at q11 n17
        have n18 := rtext_len (a17.2)
        obtain ⟨a18, E18⟩ : ∃ a, Hid (rtext (a17.2) = a) := ⟨_, Lib.hid rfl⟩
        rw [E18.out] at q11 n18
        go_wp2_with fail
        go_region_with (go_at_call 67; refine q11.mono ?_; rintro e w11 ⟨rfl, r11, b11, c11⟩)
        obtain ⟨C13, HC13, hC13⟩ : ∃ C, Hid ((((C12.set 16 (.string (str a16.1))).set 17 (.string (str a17.1))).set 18 (.string (str a18.1))) = C) ∧ Rest 19 C := ⟨_, Lib.hid rfl, (((hC12.set 19 16 (.string (str a16.1)) (by omega) (by omega)).set 19 17 (.string (str a17.1)) (by omega) (by omega)).set 19 18 (.string (str a18.1)) (by omega) (by omega))⟩
        rw [HC13.out] at b11
        clear hC12
        have cc11 := cc10.drew.and c11
        clear q11 r10 b10 c11 cc10
        have q12 := rnum2_step go 19 20 r11.drew b11.drew (by rw [hC13.1]; omega) (by rw [hC13.1]; omega) hg hB (by omega)
        have n19 := rnum_len 8 (a18.2)
        obtain ⟨a19, E19⟩ : ∃ a, Hid (rnum 8 (a18.2) = a) := ⟨_, Lib.hid rfl⟩
        rw [E19.out] at q12 n19
        have n20 := rnum_len 8 (a19.2)
        obtain ⟨a20, E20⟩ : ∃ a, Hid (rnum 8 (a19.2) = a) := ⟨_, Lib.hid rfl⟩
        rw [E20.out] at q12 n20
        go_wp2_with fail
        go_region_with (go_at_call 66; refine q12.mono ?_; rintro e w12 ⟨rfl, r12, b12, c12⟩)
        obtain ⟨C14, HC14, hC14⟩ : ∃ C, Hid (((C13.set 19 (.int .i64 a19.1)).set 20 (.int .i64 a20.1)) = C) ∧ Rest 21 C := ⟨_, Lib.hid rfl, ((hC13.set 21 19 (.int .i64 a19.1) (by omega) (by omega)).set 21 20 (.int .i64 a20.1) (by omega) (by omega))⟩
        rw [HC14.out] at b12
        clear hC13
        have cc12 := cc11.drew.and c12
        clear q12 r11 b11 c12 cc11
        have q13 := rtext1_step go 21 r12 b12 ((hC14.at_ 21 (by omega) (by omega)).trans rfl) hg hB (by omega)
        have n21 := rtext_len (a20.2)
        obtain ⟨a21, E21⟩ : ∃ a, Hid (rtext (a20.2) = a) := ⟨_, Lib.hid rfl⟩
        rw [E21.out] at q13 n21
        go_wp2_with fail
        refine q13.mono ?_
        rintro e w13 ⟨rfl, r13, b13, c13⟩
        obtain ⟨C15, HC15, hC15⟩ : ∃ C, Hid ((C14.set 21 (.string (str a21.1))) = C) ∧ Rest 22 C := ⟨_, Lib.hid rfl, (hC14.set 22 21 (.string (str a21.1)) (by omega) (by omega))⟩
        rw [HC15.out] at b13
        clear hC14
        have cc13 := cc12.and c13
        clear q13 r12 b12 c13 cc12
        have q14 := rnum1_step go 22 r13 b13 (by rw [hC15.1]; omega) hg hB (by omega)
        have n22 := rnum_len 8 (a21.2)
        obtain ⟨a22, E22⟩ : ∃ a, Hid (rnum 8 (a21.2) = a) := ⟨_, Lib.hid rfl⟩
        rw [E22.out] at q14 n22
        go_wp2_with fail
        refine q14.mono ?_
        rintro e w14 ⟨rfl, r14, b14, c14⟩
        obtain ⟨C16, HC16, hC16⟩ : ∃ C, Hid ((C15.set 22 (.int .i64 a22.1)) = C) ∧ Rest 23 C := ⟨_, Lib.hid rfl, (hC15.set 23 22 (.int .i64 a22.1) (by omega) (by omega))⟩
        rw [HC16.out] at b14
        clear hC15
        have cc14 := cc13.and c14
        clear q14 r13 b13 c14 cc13
        have q15 := manyKr_any go 23 r14 b14 ((hC16.at_ 23 (by omega) (by omega)).trans rfl) hg hB (by omega)
        have n23 := rnum_len 1 (a22.2)
        unfold ReadMany at q15
        obtain ⟨a23, E23⟩ : ∃ a, Hid (rnum 1 (a22.2) = a) := ⟨_, Lib.hid rfl⟩
        rw [E23.out] at q15 n23
        go_wp2_with fail
        refine q15.mono ?_
        rintro e w15 ⟨rfl, r15, c15, gK, mK, hmK, hlK, hzK, kK, b15⟩
        have cc15 := cc14.and c15
        have hw15 := cc14.size
        have hw15b := c15.size
        have d15 : w15.cell? ⟨go, 23, none⟩ = some (.slice (some ⟨gK, 0, none⟩) mK mK) := (b15.cell 23).trans (by rw [List.getElem?_set_self (by rw [hC16.1]; omega)])
        obtain ⟨C17, HC17, hC17⟩ : ∃ C, Hid ((C16.set 23 (.slice (some ⟨gK, 0, none⟩) mK mK)) = C) ∧ Rest 24 C := ⟨_, Lib.hid rfl, (hC16.set 24 23 (.slice (some ⟨gK, 0, none⟩) mK mK) (by omega) (by omega))⟩
        rw [HC17.out] at b15
        clear hC16
        clear q15 r14 b14 cc14
        have kne1 : gK ≠ go := by omega
        have kne2 : gK ≠ gc := by omega
        have gKB : B ≤ gK := by omega
        have kKl := kK.lt
        have k10 := kq9.chg cc15 (by simp [gne1, gne2])
        have kq9l := kq9.lt
        have hgKS : gS ≠ gK := by omega
        have cc10 := cq9.and cc15
        have bK := b15
        have d23 := d15
        have hbl23 := bK.lt
        clear b15 cc15 cq9 kq9
        go_wp2
        go_loopw [6, 192] (fun _ i wr => ∃ m : Nat, m ≤ mK ∧ i = .int .i64 m ∧ Rd wr B gc (reach rkey m (a23.2)).2 ∧ Blk wr gK (jv (reach rkey m (a23.2)).1 ++ List.replicate ((mK - m) * 2) (tx [])) 54 ∧ Chg [gc, gK] w15 wr) (fun _ i _ => mK - (intOf i).toNat)
        case atStart => exact ⟨0, by omega, rfl, r15, by simpa [jv, reach, tx] using kK, Chg.refl _ _⟩
        case round =>
          obtain ⟨m, hm, rfl, rr, kr, cr⟩ := hrel
          have bKr := bK.chg cr (by simp [hg, Ne.symm kne1])
          have dr : wr.cell? ⟨go, 23, none⟩ = some (.slice (some ⟨gK, 0, none⟩) mK mK) := (cr.cell (p := ⟨go, 23, none⟩) hbl23 (by simp [hg, Ne.symm kne1])).trans d23
          by_cases hlt : m < mK
          · have hlj := reach_length rkey m (a23.2)
            have hln := reach_len (f := rkey) rkey_len m (a23.2)
            have hsn := reach_snoc rkey m (a23.2)
            have hat0 := jvs_at (reach rkey m (a23.2)).1 mK (by omega) 0 (by omega)
            have hat1 := jvs_at (reach rkey m (a23.2)).1 mK (by omega) 1 (by omega)
            have hset := fun k => jvs_set (reach rkey m (a23.2)).1 k mK (by omega)
            rw [hlj] at hat0 hat1 hset
            have hst0 := rtext2_step gK (m * 2) (m * 2 + 1) rr.drew kr.drew hat0 hat1 (by omega) kne2 gKB (by omega)
            have HSN := Lib.hid hsn; have HSET := Lib.hid hset
            clear hsn hset hat0 hat1
            generalize reach rkey m (a23.2) = rj at *
            go_wp2_with fail
            go_region_with (go_at_call 67; refine hst0.mono ?_; rintro e w2 ⟨rfl, rr2, kr2, cr2⟩)
            all_goals
              have kr3 := kr2
              rw [show (.string (str (rtext rj.2).1) : Value) = tx (rkey rj.2).1.kid from rfl, show (.string (str (rtext (rtext rj.2).2).1) : Value) = tx (rkey rj.2).1.x from rfl, HSET.out] at kr3
              have cr3 := cr.drew.and cr2
              have rr3 : Rd w2 B gc (rkey rj.2).2 := rr2
              clear hst0 kr kr2 rr rr2 cr cr2
              go_wp2
              go_roundw
              case rel => exact ⟨m + 1, by omega, by go_num, by rw [HSN.out]; exact rr3, by rw [HSN.out]; exact kr3, cr3⟩
              case measure => simp [intOf]; omega
          · obtain rfl : m = mK := by omega
            rw [Nat.sub_self, Nat.zero_mul, List.replicate_zero, List.append_nil] at kr
            have k11 := k10.chg cr (by simp [gne2, hgKS])
            have hlK := reach_length rkey m (a23.2)
            obtain ⟨a24, E24⟩ : ∃ a, Hid (reach rkey m (a23.2) = a) := ⟨_, Lib.hid rfl⟩
            rw [E24.out] at rr kr hlK
            have hrop : rop s = (⟨a0.1, a1.1, a2.1, ⟨a3.1, a4.1, a5.1, a6.1, a77.1⟩, ⟨a8.1, a9.1, a10.1, uu == 1⟩, ⟨a12.1, a13.1, a14.1, a15.1, a16.1⟩, ⟨a17.1, a18.1, a19.1, a20.1⟩, ⟨a21.1, a22.1, a24.1⟩⟩, a24.2) := by
              unfold rop rmany
              simp only [E0.out, E1.out, E2.out, E3.out, E4.out, E5.out, E6.out, E7.out, ← hmS, E77.out, E8.out, E9.out, E10.out, E99.out, E98.out, E12.out, E13.out, E14.out, E15.out, E16.out, E17.out, E18.out, E19.out, E20.out, E21.out, E22.out, E23.out, ← hmK, E24.out]
            go_wp2
            go_end0
            refine ⟨rfl, ?_⟩
            unfold ReadOp
            rw [hrop]
            refine ⟨rr, ?_, gS, gK, j, m, by omega, by omega, ?_, by omega, by omega, k11, kr, hlS, hlK⟩
            · exact cc10.trans cr (by
                intro s hs
                simp at hs
                rcases hs with rfl | rfl
                · exact .inl (by simp)
                · exact .inr (by omega))
            · have e : C17 = opCells ⟨a0.1, a1.1, a2.1, ⟨a3.1, a4.1, a5.1, a6.1, a77.1⟩, ⟨a8.1, a9.1, a10.1, uu == 1⟩, ⟨a12.1, a13.1, a14.1, a15.1, a16.1⟩, ⟨a17.1, a18.1, a19.1, a20.1⟩, ⟨a21.1, a22.1, a24.1⟩⟩ (.slice (some ⟨gS, 0, none⟩) j j) (.slice (some ⟨gK, 0, none⟩) m m) := by
                rw [← HC17.out]
                rw [← HC16.out]
                rw [← HC15.out]
                rw [← HC14.out]
                rw [← HC13.out]
                rw [← HC12.out]
                rw [← HC11.out]
                rw [← HC10.out]
                rw [← HC9.out]
                rw [← HC8.out]
                rw [← HC7.out]
                rw [← HC6.out]
                rw [← HC5.out]
                rw [← HC4.out]
                rw [← HC3.out]
                rw [← HC2.out]
                rw [← HC1.out]
                rw [← HC0.out]
                kernel_rfl
              rw [← e]
              exact bKr
end Go.Proofs.YtmbpnkacggngkaaGreatDoor
