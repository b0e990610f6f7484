/- THE WALK of the reference's Sum, at 32 bits. -/
import Derived.Test.YtmbpnkacggngkaaGreatDoorShaBlock
namespace Go.Proofs.YtmbpnkacggngkaaGreatDoor
open Go.RowKit Mem

def pad (d : List UInt8) (z : Nat) : List UInt8 := d ++ [128] ++ List.replicate z 0
theorem pad_zero (d : List UInt8) : bv d ++ [.int .u8 128] = bv (pad d 0) := by simp [pad, bv]
theorem pad_more (d : List UInt8) (z : Nat) : bv (pad d z) ++ [.int .u8 0] = bv (pad d (z + 1)) := by
  unfold pad
  rw [List.replicate_succ', ← List.append_assoc, bv_append (d ++ [128] ++ List.replicate z 0)]
  rfl
theorem full_pad (d : List UInt8) : bv (pad d (Sha.zeros d.length)) ++ bv (Sha.be 8 (8 * d.length)) = bv (Sha.full d) := by rw [← bv_append]; rfl
theorem rep_more (j : Nat) : bv (List.replicate j 0) ++ [.int .u8 0] = bv (List.replicate (j + 1) 0) := by
  rw [List.replicate_succ', bv_append]
  rfl
def lenV : Value → Nat
  | .slice _ n _ => n
  | _ => 0
theorem zeros_more {n z k : Nat} (hk : k = n + 1 + z) (hz : z < Sha.zeros n) : ∃ r, 0 < r ∧ (k + 8) % 64 = r := by
  refine ⟨_, ?_, rfl⟩
  unfold Sha.zeros at hz
  omega
theorem zeros_done {n z k : Nat} (hk : k = n + 1 + z) (hz : z = Sha.zeros n) : (k + 8) % 64 = 0 := by
  unfold Sha.zeros at hz
  omega
set_option maxRecDepth 100000 in
set_option maxHeartbeats 4000000 in
theorem rsum_any (hc : List Value) (A : Option Addr) (cA : Nat) (B : Option Addr) (cB : Nat) (C : Option Addr) (cC : Nat) (D : Option Addr) (cD : Nat) (K : Option Addr) (cK : Nat) (F : Option Addr) (cF : Nat)
    (Ad : Option Addr) (n c : Nat) (d : List UInt8) (w : World) (h : HIn w hc A cA B cB C cC D cD K cK F cF) (hd : Bs w w.heap.size Ad n d) (hn : n ≤ 1000000) :
    Calls Tryz.prog 78 #[.agg hc.toArray, .slice Ad n c] w fun e w' => ∃ A' c', e = .returned (.slice A' 32 c') ∧ 32 ≤ c' ∧ w'.ownsRow w.heap.size 5 1 (.slice A' 32 c') 32 (bv (Sha.sum (Sha.tops 3 64) (Sha.tops 2 8) d)) ∧ Below w.heap.size w w' := by
  obtain ⟨i0, hi, hz0, hz1, hz2⟩ := info_parts infoB
  obtain ⟨i1, hi1, hy0, hy1, hy2⟩ := info_parts infoW
  have h32 := h.h32
  have HDL := Lib.hid hd.len
  obtain ⟨W, hW⟩ : ∃ W, w.alloc (.cells hc.toArray 114) = W := ⟨_, rfl⟩
  have BH : Blk W w.heap.size hc 114 := by rw [← hW]; exact Blk.new _ _ _
  have hbW : Below w.heap.size w W := by rw [← hW]; exact (Below.refl _ _).alloc (Nat.le_refl _) _
  have hWs : w.heap.size ≤ W.heap.size := hbW.size
  have HH : HIn W hc A cA B cB C cC D cD K cK F cF := h.below hbW
  have hdW : Bs W W.heap.size Ad n d := vs_below hd hbW
  have HC0 : Hid (∀ wr, Below W.heap.size W wr → wr.cell? ⟨w.heap.size, 0, none⟩ = some (.int .i64 32)) := Lib.hid fun wr hr => ((BH.below hr).cell 0).trans h32.bits
  have HW := Lib.hid hW
  have h63 : 0 + n ≤ maxLen := by unfold maxLen; omega
  have h63b : n + 1 ≤ maxLen := by unfold maxLen; omega
  clear hW hd h
  go_enter Tryz.func78, Tryz.ntmps78
  go_upto_region 1 with fail
  rw [HW.out]
  go_wp2_with (at_builtin; go_must (refine wpList_append W rfl (.tmp 15) (.tmp 16) 62 rfl W.heap.size 5 i0 (.int .u8 0) 1 1 Tryz.underlying62 hi hz0 hz1 hz2 rfl (by omega) _ 0 [] rfl (World.ownsRow_nil _ _ _ _) W.heap.size _ n _ _ rfl hdW (bv_oneCell _) h63 (by omega) (Nat.le_refl _) ?_))
  intro A5 c5 w5 hown5 g5 g5' hgr
  have hb5 : Below W.heap.size W w5 := below_grown (Below.refl _ _) hgr (Nat.le_refl _) (World.ownsRow_nil W W.heap.size 5 1)
  have hown5 : w5.ownsRow W.heap.size 5 1 (.slice A5 n c5) n (bv d) := by simpa using hown5
  have hB1 : W.heap.size ≤ w5.heap.size := hb5.size
  clear hgr hdW
  go_wp2_with (at_builtin; go_must (refine wpList_push rfl (.tmp 18) (.tmp 19) 62 rfl W.heap.size i0 (.int .u8 0) 1 Tryz.underlying62 hi hz0 hz1 hz2 rfl _ _ _ rfl hown5 rfl rfl h63b (by omega) hB1 ?_))
  intro A6 c6 w6 hown6 g6 g6' hgr6
  have hb6 := below_push hb5 hgr6 hB1 hown5 (Nat.le_refl _)
  have hown6 : w6.ownsRow W.heap.size 5 1 (.slice A6 (n + 1) c6) (n + 1) (bv (pad d 0)) := by rw [← pad_zero]; exact hown6
  have k6 := HC0.out _ hb6
  clear hown5 hgr6 hb5 hB1 g5 g5' g6 g6' h63 h63b
  go_wp2_with fail
  go_loopw [5] (fun v wr => ∃ (z k : Nat) (A5 : Option Addr) (c5 : Nat), z ≤ Sha.zeros n ∧ Hid (k = n + 1 + z) ∧ k ≤ n + 65 ∧ v = .slice A5 k c5 ∧ Below W.heap.size W wr ∧ wr.ownsRow W.heap.size 5 1 (.slice A5 k c5) k (bv (pad d z))) (fun v _ => n + 66 - lenV v)
  case atStart => exact ⟨0, n + 1, A6, c6, by omega, Lib.hid rfl, by omega, rfl, hb6, hown6⟩
  case round =>
    clear k6 hown6 hb6
    obtain ⟨z, k, A5, c5, hz, HK, hk, rfl, hbr, hown⟩ := hrel
    have k0 := HC0.out _ hbr
    have hm1 : (k : Int) + 8 ≤ 2000000 := by omega
    have hm0 : (0 : Int) ≤ (k : Int) := by omega
    by_cases hzl : z < Sha.zeros n
    · obtain ⟨r, hr0, hr⟩ := zeros_more HK.out hzl
      have ht : Int.tmod ((k : Int) + 8) 64 = (r : Int) := by rw [← hr]; exact nat_tmod (k + 8) 64
      have ht2 : ((k : Int) + 8) % 64 = (r : Int) := by rw [← hr]; omega
      have hrn : ((r : Int) != 0) = true := by simp; omega
      have HZ := Lib.hid hzl
      have h63 : k + 1 ≤ maxLen := by unfold maxLen; omega
      have hB1 : W.heap.size ≤ wr.heap.size := hbr.size
      clear hr hz hzl
      go_wp2_with (at_builtin; go_must (refine wpList_push rfl (.tmp 33) (.tmp 34) 62 rfl W.heap.size i0 (.int .u8 0) 1 Tryz.underlying62 hi hz0 hz1 hz2 rfl _ _ _ rfl hown rfl rfl h63 (by omega) hB1 ?_))
      intro A' c' w2 hown' g1' g2' hgr
      have hb2 := below_push hbr hgr hB1 hown (Nat.le_refl _)
      rw [pad_more] at hown'
      have hkz : z < Sha.zeros n := HZ.out
      have hz64 : Sha.zeros n < 64 := Nat.mod_lt _ (by omega)
      have HKB := Lib.hid (show k + 1 ≤ n + 65 by have := HK.out; omega)
      clear hown hgr hbr ht ht2 hrn hr0 hkz hz64
      go_wp2
      go_roundw
      case rel => exact ⟨z + 1, k + 1, A', c', HZ.out, Lib.hid (by rw [HK.out]; omega), HKB.out, rfl, hb2, hown'⟩
      case measure => simp [lenV]; omega
    · have hze : z = Sha.zeros n := by omega
      have hr := zeros_done HK.out hze
      have ht : Int.tmod ((k : Int) + 8) 64 = 0 := by
        have := nat_tmod (k + 8) 64
        rw [hr] at this
        exact this
      have ht2 : ((k : Int) + 8) % 64 = 0 := by omega
      rw [hze] at hown
      have HK2 := Lib.hid (show k = n + 1 + Sha.zeros n by rw [HK.out, hze])
      clear hr hz hzl hze HK
      obtain ⟨wo, hwo⟩ : ∃ wo, wo = wr := ⟨_, rfl⟩
      subst hwo
      go_wp2_with fail
      have hkb : k + 8 ≤ 2000000 := by omega
      have hbW0 := hbr
      clear ht ht2 k0 hm1 hm0
      go_loopw [8, 9] (fun v i wx => ∃ (j : Nat) (A8 : Option Addr) (c8 : Nat), j ≤ 8 ∧ i = .int .i64 (j : Int) ∧ v = .slice A8 j c8 ∧ Below wo.heap.size wo wx ∧ wx.ownsRow wo.heap.size 5 1 (.slice A8 j c8) j (bv (List.replicate j 0))) (fun _ i _ => 8 - (intOf i).toNat)
      case atStart => exact ⟨0, none, 0, by omega, rfl, rfl, Below.refl _ _, World.ownsRow_nil _ _ _ _⟩
      case round =>
        obtain ⟨j, A8, c8, hj, rfl, rfl, hbr, hown8⟩ := hrel
        by_cases hj8 : j < 8
        · have h63 : j + 1 ≤ maxLen := by unfold maxLen; omega
          have hB1 : wo.heap.size ≤ wr.heap.size := hbr.size
          go_wp2_with (at_builtin; go_must (refine wpList_push rfl (.tmp 44) (.tmp 45) 62 rfl wo.heap.size i0 (.int .u8 0) 1 Tryz.underlying62 hi hz0 hz1 hz2 rfl _ _ _ rfl hown8 rfl rfl h63 (by omega) hB1 ?_))
          intro A' c' w2 hown' g1' g2' hgr
          have hb2 := below_push hbr hgr hB1 hown8 (Nat.le_refl _)
          rw [rep_more] at hown'
          clear hown8 hgr hbr
          go_wp2
          go_roundw
          case rel => exact ⟨j + 1, A', c', by omega, by go_num, rfl, hb2, hown'⟩
          case measure => simp [intOf]; omega
        · have hje : j = 8 := by omega
          have HJ := Lib.hid hje
          have hjge : 8 ≤ j := by omega
          have hjle : j ≤ 8 := by omega
          obtain ⟨g8, rfl, hg8a, hg8b⟩ := own_some hown8 (by omega)
          have hj8' : j ≤ c8 := by obtain ⟨_, _, e, h1, _⟩ := own_form hown8; injection e with _ _ e; omega
          obtain ⟨w1, hw1⟩ : ∃ w1, w1 = wr := ⟨_, rfl⟩
          subst hw1
          have hown8' : w1.ownsRow wo.heap.size 5 1 (.slice (some ⟨g8, 0, none⟩) j c8) j (bv (List.replicate (8 - 0) 0 ++ Sha.be 0 (8 * n))) := by rw [hje] at hown8 ⊢; exact hown8
          have hbW1 := hbr
          clear hj hje hown8 hj8
          go_wp2_with fail
          go_loopw [7, 10] (fun v i wx => ∃ q : Nat, q ≤ 8 ∧ i = .int .i64 (7 - (q : Int)) ∧ v = .int .i64 ((Sha.rem (8 * n) q : Nat) : Int) ∧ Below wo.heap.size wo wx ∧ wx.ownsRow wo.heap.size 5 1 (.slice (some ⟨g8, 0, none⟩) j c8) j (bv (List.replicate (8 - q) 0 ++ Sha.be q (8 * n)))) (fun _ i _ => (intOf i + 1).toNat)
          case atStart => exact ⟨0, by omega, rfl, by simp [Sha.rem], hbW1, hown8'⟩
          case round =>
            clear hown8' hbW1
            obtain ⟨q, hq, rfl, rfl, hb, hown8⟩ := hrel
            by_cases h8 : q < 8
            · obtain ⟨dd, hdd⟩ : ∃ dd : Nat, 7 - q = dd := ⟨_, rfl⟩
              have e1 : (7 - (q : Int)) = (dd : Int) := by omega
              have hd7 : dd ≤ 7 := by omega
              have hdj : (dd : Int) < (j : Int) := by omega
              have hx : Sha.rem (8 * n) q ≤ 8000000 := Nat.le_trans (rem_le _ q) (by omega)
              have HS := Lib.hid (Sha.be_set 8 q (8 * n) h8)
              rw [show 8 - q - 1 = dd by omega] at HS
              have HR := Lib.hid (show Sha.rem (8 * n) (q + 1) = Sha.rem (8 * n) q / 256 from rfl)
              have hl : (List.replicate (8 - q) 0 ++ Sha.be q (8 * n)).length = 8 := by rw [List.length_append, List.length_replicate, Sha.be_len]; omega
              generalize List.replicate (8 - q) 0 ++ Sha.be q (8 * n) = O at *
              generalize Sha.rem (8 * n) q = x at *
              have cd : wr.cell? ⟨g8, dd, none⟩ = some (.int .u8 (O[dd]'(by omega)).toNat) := by
                have := hown8.cells (g := g8) rfl dd (.int .u8 (O[dd]'(by omega)).toNat) (by rw [bv_at, List.getElem?_eq_getElem (by omega)]; rfl)
                rwa [zero_add_] at this
              have cf : wr.frozen? ⟨g8, dd, none⟩ = false := hown8.frozenAt dd
              have ch : g8 < wr.heap.size := (hown8.lt g8 rfl).2
              generalize (O[dd]'(by omega)).toNat = od at *
              have hr := nat_tmod x 256
              have hqd := nat_tdiv x 256
              obtain ⟨r, hr2⟩ : ∃ r, x % 256 = r := ⟨_, rfl⟩
              obtain ⟨y, hy2⟩ : ∃ y, x / 256 = y := ⟨_, rfl⟩
              have hr3 : r < 256 := by omega
              have hy3 : y ≤ 8000000 := by omega
              have hrE : (x : Int) % 256 = (r : Int) := by omega
              have hyE : (x : Int) / 256 = (y : Int) := by omega
              rw [hr2] at hr HS
              rw [hy2] at hqd HR
              have hr : Int.tmod (x : Int) 256 = (r : Int) := hr
              have hqd : Int.tdiv (x : Int) 256 = (y : Int) := hqd
              have hst := (hown8.stored dd (.int .u8 ((UInt8.ofNat r).toNat : Int))).1
              rw [bv_set, HS.out, UInt8.toNat_ofNat_of_lt' (show r < 256 from hr3)] at hst
              have hms : (intOf (Value.int IntKind.i64 ((dd : Int) - 1)) + 1).toNat < (intOf (Value.int IntKind.i64 (dd : Int)) + 1).toNat := by
                show ((dd : Int) - 1 + 1).toNat < ((dd : Int) + 1).toNat
                omega
              have HE := Lib.hid (show ((dd : Int) - 1) = 7 - ((q + 1 : Nat) : Int) by omega)
              have HST := Lib.hid hst
              have hb3 := hb.setCell (p := ⟨g8, dd, none⟩) hg8a (.int .u8 (r : Int))
              clear hr2 hy2 hdd hown8 HS hl hst hb
              rw [e1]
              clear e1
              go_wp2
              go_roundw
              case rel => exact ⟨q + 1, by omega, by rw [HE.out], by rw [HR.out], hb3, HST.out⟩
              case measure => exact hms
            · have hqe : q = 8 := by omega
              have hown9 : wr.ownsRow wo.heap.size 5 1 (.slice (some ⟨g8, 0, none⟩) j c8) j (bv (Sha.be 8 (8 * n))) := by rw [hqe] at hown8; simpa using hown8
              have hneg : (7 - (q : Int)) = -1 := by omega
              obtain ⟨w2, hw2⟩ : ∃ w2, w2 = wr := ⟨_, rfl⟩
              subst hw2
              have HQ := Lib.hid hqe
              have hq8 : 8 ≤ q := by omega
              have HB := Lib.hid hb
              have hownA := below_own hown hb
              have hbA := hbW0.trans (hb.mono hbW0.size)
              have hrd : Vs w2 w2.heap.size 1 (some ⟨g8, 0, none⟩) j (bv (Sha.be 8 (8 * n))) := Bs.of_own hown9
              have h63 : k + j ≤ maxLen := by unfold maxLen; omega
              have hB1 : W.heap.size ≤ w2.heap.size := hbA.size
              clear hown8 hqe hneg hq h8 hb hown hown9 hbW0
              go_wp2_with (at_builtin; go_must (refine wpList_append w2 rfl (.tmp 61) (.tmp 62) 62 rfl W.heap.size 5 i0 (.int .u8 0) 1 1 Tryz.underlying62 hi hz0 hz1 hz2 rfl (by omega) _ _ _ rfl hownA w2.heap.size _ j _ _ rfl hrd (bv_oneCell _) h63 (by omega) hB1 ?_))
              intro AA cA' w3 hownF gF gF' hgr
              have hb3 := below_grown hbA hgr hB1 hownA
              have hfp : bv (pad d (Sha.zeros n)) ++ bv (Sha.be 8 (8 * n)) = bv (Sha.full d) := by rw [← HDL.out]; exact full_pad d
              rw [hfp] at hownF
              clear hgr hownA hrd hfp hB1 h63 hbA
              obtain ⟨KK, hKK⟩ : ∃ KK, k + j = KK := ⟨_, rfl⟩
              have hKb : KK ≤ 2000000 := by omega
              have HKE := Lib.hid (show (Sha.full d).length = KK by have := Bs.len (Bs.of_own hownF); rw [this, hKK])
              have H64 := Lib.hid (show KK % 64 = 0 by rw [← HKE.out]; exact Sha.full_len d)
              have hKp : 0 < KK := by omega
              rw [hKK] at hownF gF
              rw [hKK]
              clear hKK
              obtain ⟨ga, rfl, hga1, hga2⟩ := own_some hownF hKp
              have hfW : Ws w3 F 8 (Sha.tops 2 8) := HH.f.below hb3
              have h63 : 0 + 8 ≤ maxLen := by unfold maxLen; omega
              have k7 : w3.cell? ⟨w.heap.size, 7, none⟩ = some (.slice F 8 cF) := ((BH.below hb3).cell 7).trans (by rw [HH.eq]; rfl)
              go_wp2_with (at_builtin; go_must (refine wpList_append w3 rfl (.tmp 64) (.tmp 66) 112 rfl w3.heap.size 151 i1 (.int .u64 0) 1 8 Tryz.underlying112 hi1 hy0 hy1 hy2 rfl (by omega) _ 0 [] rfl (World.ownsRow_nil _ _ _ _) w3.heap.size _ 8 _ _ rfl hfW (wv_one _) h63 (by omega) (Nat.le_refl _) ?_))
              intro As cs w4 hownS gS gS' hgr
              have hownS : w4.ownsRow w3.heap.size 151 1 (.slice As 8 cs) 8 (wv (Sha.tops 2 8)) := by simpa using hownS
              have hS4 : Ws w4 As 8 (Sha.states (Sha.tops 3 64) (Sha.tops 2 8) (Sha.full d) 0) := Ws.of_own hownS
              have hb4 : Below w3.heap.size w3 w4 := below_grown (Below.refl _ _) hgr (Nat.le_refl _) (World.ownsRow_nil w3 w3.heap.size 151 1)
              clear hgr hownS hfW k7 h63 gS'
              go_wp2_with fail
              go_loopw [11, 12] (fun v i wx => ∃ (t q : Nat) (As : Option Addr) (cs : Nat), Hid (q = 64 * t) ∧ q ≤ KK ∧ i = .int .i64 (q : Int) ∧ v = .slice As 8 cs ∧ 8 ≤ cs ∧ Below w3.heap.size w3 wx ∧ Ws wx As 8 (Sha.states (Sha.tops 3 64) (Sha.tops 2 8) (Sha.full d) t)) (fun _ i _ => KK - (intOf i).toNat)
              case atStart => exact ⟨0, 0, As, cs, Lib.hid rfl, by omega, rfl, rfl, gS, hb4, hS4⟩
              case round =>
                clear hS4 hb4 gS
                obtain ⟨t, q2, As, cs, HQ2, hq2, rfl, rfl, hcs, hbx, hSx⟩ := hrel
                have hbxW := hb3.trans (hbx.mono hb3.size)
                have k0 := HC0.out _ hbxW
                by_cases hlt : q2 < KK
                · have hq64 : q2 + 64 ≤ KK := by have := H64.out; have := HQ2.out; omega
                  have HS := Lib.hid (show Sha.states (Sha.tops 3 64) (Sha.tops 2 8) (Sha.full d) (t + 1) = Sha.block (Sha.tops 3 64) (Sha.states (Sha.tops 3 64) (Sha.tops 2 8) (Sha.full d) t) (((Sha.full d).drop (64 * t)).take 64) from rfl)
                  have hS32 := Lib.hid (Sha.states_32 (Sha.tops_32 2 8) (Sha.tops 3 64) (Sha.full d) t)
                  rw [← HQ2.out] at HS
                  have hrd := (Bs.of_own hownF).below hbx
                  have hrd2 : Bs wr w3.heap.size (some ⟨ga, q2, none⟩) 64 (((Sha.full d).drop q2).take 64) := by
                    have h1 := (hrd.tail (k := q2) (cap := cA') (by omega) gF (by omega)).take (k := 64) (by omega)
                    simpa [zero_add_] using h1
                  have fld : ∀ p, (loadH (.pointer (some ⟨w.heap.size, 0, none⟩))).run Tryz.prog (Batch.grew wr p) = .ok (.agg hc.toArray) (Batch.grew wr p) := fun p => load_H ((BH.below hbxW).below (Batch.grew_below wr p)) h32.len
                  have f0 : ∀ p, (Batch.grew wr p).cell? ⟨w.heap.size, 0, none⟩ = some (.int .i64 32) := fun p => ((BH.below hbxW).below (Batch.grew_below wr p)).cell 0 |>.trans h32.bits
                  have i1' : IntKind.i64.wrap ((q2 : Int) + 64) = (q2 : Int) + 64 := by rw [IntKind.wrap_i64]; omega
                  have i2 : (0 : Int) ≤ (q2 : Int) := by omega
                  have i3 : (q2 : Int) ≤ (q2 : Int) + 64 := by omega
                  have i4 : (q2 : Int) + 64 ≤ (cA' : Int) := by omega
                  have i5 : ¬ cA' = q2 := by omega
                  have i6 : ((q2 : Int) + 64).toNat = q2 + 64 := by omega
                  clear hrd
                  go_wp2_with fail
                  refine Batch.wp_region_grew_tail 10 (by kernel_rfl) (by kernel_rfl) ?_
                  simp only [List.take_succ_cons, List.take_zero, List.drop_succ_cons, List.drop_zero]
                  repeat (go_big_quiet_step (fail))
                  refine wpQuiet_nil ?_
                  rintro _ ⟨pz, rfl⟩
                  have hg := Batch.grew_below wr pz
                  have hbB := rblock_any hc A cA B cB C cC D cD K cK F cF As cs _ (some ⟨ga, q2, none⟩) (cA' - q2) _ (Batch.grew wr pz) (HH.below (hbxW.trans (hg.mono hbxW.size))) (hSx.below hg) hS32.out hcs ((hrd2.mono hbx.size).below hg |>.mono hg.size)
                  have hgx : Below w3.heap.size w3 (Batch.grew wr pz) := hbx.trans (hg.mono hbx.size)
                  rw [← HS.out] at hbB
                  generalize Batch.grew wr pz = wg at *
                  clear fld f0 i1' i2 i3 i4 i5 i6 hrd2 hSx hg hbx hbxW k0
                  go_wp2_with fail
                  refine hbB.mono ?_
                  rintro e w7 ⟨A7, c7, rfl, hc7, hS7, hb7⟩
                  have hb8 := hgx.trans (hb7.mono hgx.size)
                  have k7 := HC0.out _ (hb3.trans (hb8.mono hb3.size))
                  have HQ3 := Lib.hid (show q2 + 64 = 64 * (t + 1) by rw [HQ2.out]; omega)
                  clear hbB hb7 hgx
                  go_wp2
                  go_roundw
                  case rel => exact ⟨t + 1, q2 + 64, A7, c7, HQ3, hq64, by go_num, rfl, hc7, hb8, hS7⟩
                  case measure => simp [intOf]; omega
                · have hqe : q2 = KK := by omega
                  have HT : Hid (t = (Sha.full d).length / 64) := Lib.hid (by have := HQ2.out; rw [HKE.out]; omega)
                  have hqge : KK ≤ q2 := by omega
                  have HSL := Lib.hid (Sha.states_len (F := Sha.tops 2 8) (by simp [Sha.tops_len]) (Sha.tops 3 64) (Sha.full d) t)
                  have HS32 := Lib.hid (Sha.states_32 (Sha.tops_32 2 8) (Sha.tops 3 64) (Sha.full d) t)
                  have HSUM := Lib.hid (show Sha.sum (Sha.tops 3 64) (Sha.tops 2 8) d = Sha.digest (Sha.states (Sha.tops 3 64) (Sha.tops 2 8) (Sha.full d) t) 8 by unfold Sha.sum; rw [← HT.out])
                  generalize Sha.states (Sha.tops 3 64) (Sha.tops 2 8) (Sha.full d) t = S at *
                  obtain ⟨gs, os, rfl, hgs, hsc⟩ := vs_lit hSx (by omega)
                  have HSC := Lib.hid hsc
                  obtain ⟨w5, hw5⟩ : ∃ w5, w5 = wr := ⟨_, rfl⟩
                  subst hw5
                  have hdec : decide (q2 < KK) = false := by simp; omega
                  clear hqe hlt hq2 k0 hsc hSx
                  go_wp2_with fail
                  clear hqge
                  go_loopw [13, 14] (fun v i wx => ∃ (j m : Nat) (A9 : Option Addr) (c9 : Nat), j ≤ 8 ∧ Hid (m = 4 * j) ∧ m ≤ 32 ∧ i = .int .i64 (j : Int) ∧ v = .slice A9 m c9 ∧ m ≤ c9 ∧ Below w5.heap.size w5 wx ∧ wx.ownsRow w5.heap.size 5 1 (.slice A9 m c9) m (bv (Sha.digest S j))) (fun _ i _ => 8 - (intOf i).toNat)
                  case atStart => exact ⟨0, 0, none, 0, by omega, Lib.hid rfl, by omega, rfl, rfl, by omega, Below.refl _ _, World.ownsRow_nil _ _ _ _⟩
                  case round =>
                    obtain ⟨j, m, A9, c9, hj, HM, hm, rfl, rfl, hmc, hby, hown9⟩ := hrel
                    by_cases hj8 : j < 8
                    · have HS := Lib.hid (show Sha.digest S (j + 1) = Sha.digest S j ++ Sha.be 4 (S.getD j 0) from rfl)
                      have es := (hby.cell (p := ⟨gs, os + j, none⟩) hgs).trans (HSC.out j _ (wv_at S (by rw [HSL.out]; exact hj8)))
                      have bs := HS32.out.at_ j
                      generalize S.getD j 0 = y at *
                      have hbyW := hbxW.trans (hby.mono hbxW.size)
                      have f2 : ∀ p, (Batch.grew wr p).cell? ⟨gs, os + j, none⟩ = some (.int .u64 (y : Int)) := fun p => (Batch.grew_cell (Nat.lt_of_lt_of_le hgs hby.size) p).trans es
                      have fld : ∀ p, (loadH (.pointer (some ⟨w.heap.size, 0, none⟩))).run Tryz.prog (Batch.grew wr p) = .ok (.agg hc.toArray) (Batch.grew wr p) := fun p => load_H ((BH.below hbyW).below (Batch.grew_below wr p)) h32.len
                      have hj0 : (0 : Int) ≤ (j : Int) := by omega
                      have hji : (j : Int) < 8 := by omega
                      have h63 : m + 4 ≤ maxLen := by unfold maxLen; omega
                      clear es
                      go_wp2_with fail
                      refine Batch.wp_region_grew_move [0] [1, 2, 3, 4, 5] 6 (by kernel_rfl) (by kernel_rfl) ?_
                      simp only [Batch.pick, List.getD_cons_zero, List.getD_cons_succ, List.drop_succ_cons, List.drop_zero]
                      repeat (go_big_quiet_step (fail))
                      refine wpQuiet_nil ?_
                      repeat (go_big_quiet_step (fail))
                      refine wpQuiet_nil ?_
                      rintro _ ⟨pz, rfl⟩
                      have hg := Batch.grew_below wr pz
                      have hb3' : Below w5.heap.size w5 (Batch.grew wr pz) := hby.trans (hg.mono hby.size)
                      have hown3 := below_own hown9 hg
                      have hbB := rbytes_any hc h32 y (by omega) (Batch.grew wr pz)
                      generalize Batch.grew wr pz = w6 at *
                      clear f2 fld hown9 hby hg hbyW
                      go_wp2_with fail
                      refine hbB.mono ?_
                      rintro e w7 ⟨rfl, hB7, hb7⟩
                      have hown7 := below_own hown3 hb7
                      have hb8 := hb3'.trans (hb7.mono hb3'.size)
                      have hB3 : w5.heap.size ≤ w7.heap.size := hb8.size
                      have hrd : Vs w7 w7.heap.size 1 (some ⟨w6.heap.size + 1, 0, none⟩) 4 (bv (Sha.be 4 y)) := ⟨by rw [bv_length, Sha.be_len], fun k u hk => ⟨_, rfl, hB7.lt, by rw [zero_add_]; exact (hB7.cell k).trans hk⟩⟩
                      clear hbB hB7 hown3 hb7 hb3'
                      go_wp2_with (at_builtin; go_must (refine wpList_append w7 rfl (.tmp 92) (.tmp 98) 62 rfl w5.heap.size 5 i0 (.int .u8 0) 1 1 Tryz.underlying62 hi hz0 hz1 hz2 rfl (by omega) _ _ _ rfl hown7 w7.heap.size _ 4 _ _ rfl hrd (bv_oneCell _) h63 (by omega) hB3 ?_))
                      intro A' c' w8 hown' g1' g2' hgr
                      have hb9 := below_grown hb8 hgr hB3 hown7
                      rw [← bv_append, ← HS.out] at hown'
                      have HM2 := Lib.hid (show m + 4 = 4 * (j + 1) by rw [HM.out]; omega)
                      have HMB := Lib.hid (show m + 4 ≤ 32 by have := HM.out; omega)
                      clear hown7 hgr hb8 hrd hB3 h63
                      go_wp2
                      rw [Batch.Qn_normal]
                      go_wp2
                      go_roundw
                      case rel => exact ⟨j + 1, m + 4, A', c', by omega, HM2, HMB.out, by go_num, rfl, g1', hb9, hown'⟩
                      case measure => simp [intOf]; omega
                    · have hje : j = 8 := by omega
                      have hme : m = 32 := by rw [HM.out, hje]
                      subst hje
                      subst hme
                      have hbF := (hbW.trans (hbxW.mono hbW.size)).trans (hby.mono (Nat.le_trans hbW.size hbxW.size))
                      have hz5 : w.heap.size ≤ w5.heap.size := Nat.le_trans hbW.size hbxW.size
                      go_wp2
                      go_ret
                      exact ⟨A9, c9, rfl, hmc, by rw [HSUM.out]; exact own_base hown9 hz5, hbF⟩
end Go.Proofs.YtmbpnkacggngkaaGreatDoor
