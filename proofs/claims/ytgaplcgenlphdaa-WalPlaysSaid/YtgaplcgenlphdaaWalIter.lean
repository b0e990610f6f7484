/- THE ITERATOR sectors: it hands out the records' sectors, one by one. -/
import Derived.Test.YtgaplcgenlphdaaWalFence
namespace Go.Proofs.Ytgaplcgenlphdaa
open Go.RowKit Go.Shelf Mem
attribute [local go_sem] Oper.semAt_some

theorem own_new (w : World) (base : Nat) (e : TypeId) (cur : Array Value) (n : Nat) (hb : base ≤ w.heap.size) (hn : cur.size = n) (hm : n ≤ maxLen) :
    (w.alloc (.cells cur e)).ownsRow base e 1 (.slice (some ⟨w.heap.size, 0, none⟩) n n) n cur.toList :=
  ⟨by simp [hn], .inr ⟨w.heap.size, n, cur, rfl, hb, heap_alloc_new w _, Nat.le_refl _, hm, by omega, by rw [Nat.mul_one]; exact List.take_of_length_le (by simp [hn])⟩⟩

/-- The k-th sector, as it is handed out. -/
def SecVal (C : Wal.Secs) (Sb : List Nat) (v : Value) (W : World) (k : Nat) : Prop :=
  ∃ A m c, ∃ hk : k < C.length, v = .slice A m c ∧ m ≤ c ∧ Bs W W.heap.size A m C[k] ∧ ∀ a', A = some a' → 0 < m → a'.block ∉ Sb
theorem SecVal.chg {C : Wal.Secs} {Sb : List Nat} {v : Value} {W W' : World} {k : Nat} {S : List Nat} (h : SecVal C Sb v W k) (hc : Chg S W W') (hS : ∀ s, s ∈ S → s ∈ Sb) : SecVal C Sb v W' k := by
  obtain ⟨A, m, c, hk, rfl, h1, h2, h3⟩ := h
  exact ⟨A, m, c, hk, rfl, h1, bs_chgX h2 (fun a' ha hn hm => h3 a' ha hn (hS _ hm)) hc, h3⟩

theorem chunks_more (f : Nat) (X : List UInt8) (h : 0 < X.length) : Wal.chunks (f + 1) X = X.take 128 :: Wal.chunks f (X.drop 128) := by
  show (if X.length = 0 then [] else _) = _
  rw [if_neg (by omega)]
theorem chunks_none (f : Nat) : Wal.chunks f [] = [] := by cases f <;> simp [Wal.chunks]
theorem secsAll_split (rs : Wal.Secs) (k : Nat) (h : k < rs.length) : Wal.secsAll rs = Wal.secsAll (rs.take k) ++ (Wal.secsOf rs[k] ++ Wal.secsAll (rs.drop (k + 1))) := by
  have e : rs = rs.take k ++ (rs[k] :: rs.drop (k + 1)) := by rw [← List.drop_eq_getElem_cons h, List.take_append_drop]
  unfold Wal.secsAll
  conv => lhs; rw [e]
  rw [List.flatMap_append, List.flatMap_cons]
theorem head2_bv (n : Nat) (h : n < 65536) : bv (Wal.head2 n) = [.int .u8 ((n : Int) % 256), .int .u8 ((n : Int) / 256)] := by
  simp [bv, Wal.head2]
  omega

set_option maxRecDepth 100000 in
set_option maxHeartbeats 8000000 in
theorem sectors1_hands (rs : Wal.Secs) (Sb : List Nat) (l : Nat) (W : World) (rb : Nat) (Ar : Option Addr) (nr cr : Nat) (hbox : W.cell? ⟨rb, 0, none⟩ = some (.slice Ar nr cr))
    (hrx : RsX W Sb Ar nr rs) (hlen : ∀ r ∈ rs, r.length ≤ 1000) (hnr : nr ≤ 1000000) (hSb : ∀ s, s ∈ Sb → s < W.heap.size) :
    Hands Try.prog 48 #[.pointer (some ⟨rb, 0, none⟩)] (Wal.secsAll rs).length Sb (SecVal (Wal.secsAll rs) Sb) l W := by
  intro J Jx hJ hY h0
  obtain ⟨i8, hi8, hz8, hs8, hb8⟩ := info_parts info8
  obtain ⟨C, hC⟩ : ∃ C, Wal.secsAll rs = C := ⟨_, rfl⟩
  rw [hC] at hY ⊢
  have HC := Lib.hid hC
  have HY := Lib.hid hY
  have HJ := Lib.hid hJ
  have hrl := hrx.len
  have HRL := Lib.hid hrl
  have HLEN := Lib.hid hlen
  have HSB := Lib.hid hSb
  clear hC hY hJ hrl hlen hSb
  refine callsIn_of_wp Try.func48 rfl trivial ?_ rfl
  simp only [Try.ntmps48, List.size_toArray, List.length_cons, List.length_nil, Nat.reduceAdd, Nat.reduceSub, Array.replicate_succ, Array.replicate_zero, List.push_toArray, List.append_toArray, List.nil_append, List.cons_append]
  gi_wp2
  gi_loopw [4, 5, 6, 9] (fun _ _ _ i wr => ∃ (k j : Nat), k ≤ nr ∧ i = .int .i64 k ∧ Hid (j = (Wal.secsAll (rs.take k)).length) ∧ J j wr ∧ Chg Sb W wr) (fun _ _ _ i _ => nr - (intOf i).toNat)
  case atStart => exact ⟨0, 0, by omega, rfl, Lib.hid rfl, h0, Chg.refl _ _⟩
  case round =>
    obtain ⟨k, j, hk, rfl, HJJ, hj, hc⟩ := hrel
    by_cases hlt : k < nr
    · have hkL : k < rs.length := by rw [HRL.out]; exact hlt
      obtain ⟨ad, A', n', c', rfl, b1, b2, b3, b4, b5, b6, b7⟩ := (hrx.chg hc).rd k hkL
      have hsp : ad.spot = none := by
        obtain ⟨ad0, _, _, _, e0, _, _, c0, _⟩ := (hrx.chg hc).rd 0 (by omega)
        injection e0 with e0
        subst e0
        have := World.cell?_spot c0
        simpa [Addr.add] using this
      obtain ⟨blk, off, sp⟩ := ad
      simp only at hsp
      subst hsp
      have hcell : wr.cell? ⟨blk, off + k, none⟩ = some (.slice A' n' c') := by
        rw [← b3]
        congr 1
        unfold Addr.add
        split <;> simp_all
      have hn1 : n' ≤ 1000 := by rw [← b6.len]; exact HLEN.out _ (List.getElem_mem hkL)
      have hn'l := b6.len
      have hrec := secsAll_split rs k hkL
      rw [HC.out] at hrec
      have hlast : Wal.secsAll (rs.take (k + 1)) = Wal.secsAll (rs.take k) ++ Wal.secsOf rs[k] := by
        unfold Wal.secsAll
        rw [List.take_succ_eq_append_getElem hkL, List.flatMap_append, List.flatMap_singleton]
      generalize rs[k] = r at *
      have HREC := Lib.hid hrec
      have HLAST := Lib.hid hlast
      have HNL := Lib.hid hn'l
      have hown0 := own_new wr wr.heap.size 5 #[.int .u8 ((n' : Int) % 256), .int .u8 ((n' : Int) / 256)] 2 (Nat.le_refl _) rfl (by unfold maxLen; omega)
      have hr1 : Vs (wr.alloc (.cells #[.int .u8 ((n' : Int) % 256), .int .u8 ((n' : Int) / 256)] 5)) wr.heap.size 1 A' n' (bv r) := Vs.alloc b6 (Nat.le_refl _) _
      have hone := bv_oneCell r
      have h63 : 2 + n' ≤ maxLen := by unfold maxLen; omega
      clear hrec hlast hn'l b3 b6
      gi_wp2_with (gi_at_builtin; go_must (refine wpListIn_append _ rfl (.tmp 20) (.tmp 21) 33 rfl wr.heap.size 5 i8 (.int .u8 0) 1 1 Try.underlying33 hi8 hz8 hs8 hb8 rfl (by omega) _ _ _ rfl hown0 wr.heap.size A' n' c' _ rfl hr1 hone h63 (by omega) (by simp) ?_))
      intro A1 c1 w1 hown1 g1 g2 hgr
      have hb1 : Below wr.heap.size wr w1 := below_grown ((Below.refl _ wr).alloc (Nat.le_refl _) (.cells #[.int .u8 ((n' : Int) % 256), .int .u8 ((n' : Int) / 256)] 5)) hgr (by simp) hown0 (Nat.le_refl _)
      have hown2 : w1.ownsRow wr.heap.size 5 1 (.slice A1 (2 + n') c1) (2 + n') (bv (Wal.head2 n' ++ r)) := by
        rw [bv_append, head2_bv n' (by omega)]
        exact hown1
      have hseal := seal_any A1 (2 + n') c1 _ (Wal.head2 n' ++ r) w1 (Bs.of_own hown2) (by omega) (Nat.le_refl _)
      have hsl : Crc.seal_ (Wal.head2 n' ++ r) = Wal.sealed r := by rw [← HNL.out]; rfl
      rw [hsl] at hseal
      clear hown0 hown1 hgr hr1 hone hown2 hsl
      gi_wp2_with fail
      refine ⟨trivial, (callsIn_wide.2 hseal).mono ?_⟩
      rintro e w2 ⟨A2, c2, rfl, g3, g4, hown3, hb2⟩
      have hb12 : Below wr.heap.size wr w2 := hb1.trans (hb2.mono hb1.size)
      have hJ2 : J j w2 := HJ.out j wr w2 hj hb12
      have hc2 : Chg Sb W w2 := hc.and_below hb12
      have hbs2 := Bs.of_own hown3
      have hblk2 : ∀ a', A2 = some a' → 0 < 2 + n' + 4 → a'.block ∉ Sb := by
        intro a' ha hp hm
        obtain ⟨gx, hgx, hg5, _⟩ := own_some hown3 hp
        rw [ha] at hgx
        injection hgx with hgx
        subst hgx
        have h1 := HSB.out _ hm
        have h2 := hc.size
        have h3 := hb1.size
        simp only at hg5 h1
        omega
      have hstart : Hid (∃ pre, C = pre ++ (Wal.chunks 1024 (Wal.sealed r) ++ Wal.secsAll (rs.drop (k + 1))) ∧ pre.length = j ∧ j + (Wal.chunks 1024 (Wal.sealed r)).length = (Wal.secsAll (rs.take (k + 1))).length) :=
        Lib.hid ⟨_, HREC.out, HJJ.out.symm, by rw [HLAST.out, List.length_append, HJJ.out]; rfl⟩
      clear hj hb1 hb2 hown3 hseal hb12
      gi_wp2_with fail
      gi_loopw [5, 6] (fun v _ wx => ∃ (m c : Nat) (A : Option Addr) (X : List UInt8) (f jj : Nat), v = .slice A m c ∧ m ≤ c ∧ c ≤ 9223372036854775807 ∧ m ≤ 2000 ∧ m ≤ f * 128 ∧ Bs wx wx.heap.size A m X ∧ (∀ a', A = some a' → 0 < m → a'.block ∉ Sb) ∧ J jj wx ∧ Chg Sb W wx ∧ Hid (∃ pre, C = pre ++ (Wal.chunks f X ++ Wal.secsAll (rs.drop (k + 1))) ∧ pre.length = jj ∧ jj + (Wal.chunks f X).length = (Wal.secsAll (rs.take (k + 1))).length)) (fun v _ _ => match v with | .slice _ m _ => m | _ => 0)
      case atStart => exact ⟨_, c2, A2, _, 1024, j, rfl, g3, g4, by omega, by omega, hbs2, hblk2, hJ2, hc2, hstart⟩
      case round =>
        clear hJ2 hc2 hbs2 hblk2 hstart
        obtain ⟨wy, hwy⟩ : ∃ wy, wy = wr := ⟨_, rfl⟩
        subst hwy
        obtain ⟨m, c, A, X, f, jj, rfl, hmc, hcm, hm2, hmf, hbs, hblk, hJx, hcx, HPRE⟩ := hrel
        by_cases hpos : 0 < m
        · obtain ⟨f', rfl⟩ : ∃ f', f = f' + 1 := ⟨f - 1, by omega⟩
          have hXl := hbs.len
          have hch := chunks_more f' X (by omega)
          obtain ⟨pre, hp1, hp2, hp3⟩ := HPRE.out
          rw [hch] at hp1 hp3
          have hjlt : jj < C.length := by rw [hp1]; simp; omega
          have hjC : C[jj] = X.take 128 := by
            simp only [hp1]
            rw [List.getElem_append_right (by omega)]
            simp [hp2]
          have hnext : ∃ pre', C = pre' ++ (Wal.chunks f' (X.drop 128) ++ Wal.secsAll (rs.drop (k + 1))) ∧ pre'.length = jj + 1 ∧ jj + 1 + (Wal.chunks f' (X.drop 128)).length = (Wal.secsAll (rs.take (k + 1))).length :=
            ⟨pre ++ [X.take 128], by rw [hp1]; simp, by simp [hp2], by rw [← hp3]; simp; omega⟩
          have HNEXT := Lib.hid hnext
          have hval : ∀ m', (m' = 128 ∧ 128 < m ∨ m' = m ∧ m ≤ 128) → SecVal C Sb (.slice A m' c) wy jj := by
            intro m' hm'
            refine ⟨A, m', c, hjlt, rfl, by omega, ?_, fun a' ha _ => hblk a' ha hpos⟩
            rw [hjC]
            have h1 := hbs.take (k := m') (by omega)
            have e : X.take m' = X.take 128 := by
              rcases hm' with ⟨rfl, _⟩ | ⟨rfl, h2⟩
              · rfl
              · rw [List.take_of_length_le (by omega), List.take_of_length_le (by omega)]
            rw [e] at h1
            exact h1
          have hyl := fun v hv => HY.out jj v wy hjlt hJx hv
          have hdrop := fun (W3 : World) (h3 : Chg Sb wy W3) (kk : Nat) (hkk : kk ≤ m) => (bs_chgX hbs (fun a' ha hn => hblk a' ha hn) h3).drop (k := kk) (cap := c) hkk hmc
          have HVAL := Lib.hid hval
          have HDROP := Lib.hid hdrop
          have HBLK := Lib.hid hblk
          have HXL := Lib.hid hXl
          clear hch hp1 hp2 hp3 hjC hnext hval hdrop hblk HPRE hbs hXl pre
          by_cases h128 : 128 < m
          · obtain ⟨fn, tmps, assign, body, hy, hR⟩ := hyl _ (HVAL.out 128 (.inl ⟨rfl, h128⟩))
            have hcm2 : ¬ c = 128 := by omega
            clear hyl
            gi_wp2_with fail
            refine hR.mono ?_
            rintro e W3 (⟨rfl, hJ3, hk3⟩ | ⟨rfl, hJx3⟩)
            · have hd3 := HDROP.out W3 hk3 128 (by omega)
              rw [if_neg hcm2] at hd3
              have hb3 : ∀ a', (Option.map (fun x : Addr => x.add 128) A) = some a' → 0 < m - 128 → a'.block ∉ Sb := by
                intro a' ha _
                obtain ⟨a0, ha0, rfl⟩ := Option.map_eq_some_iff.1 ha
                rw [block_add]
                exact HBLK.out a0 ha0 hpos
              clear hR hy hJx
              gi_wp2_with fail
              go_roundw
              case rel => exact ⟨m - 128, c - 128, _, X.drop 128, f', jj + 1, rfl, by omega, by omega, by omega, by omega, hd3, hb3, hJ3, hcx.and hk3, HNEXT⟩
              case measure => simp; omega
            · clear hR hy
              gi_wp2_with fail
              refine bodyPost_ret (results_none rfl _ _ _) rfl ?_
              exact ⟨⟨_, rfl⟩, .inr hJx3⟩
          · have hm128 : m ≤ 128 := by omega
            have hX0 : X.drop 128 = [] := List.drop_of_length_le (by rw [HXL.out]; exact hm128)
            have HX0 := Lib.hid hX0
            clear hX0
            by_cases hcm2 : c = m
            · subst hcm2
              obtain ⟨fn, tmps, assign, body, hy, hR⟩ := hyl _ (HVAL.out c (.inr ⟨rfl, by omega⟩))
              clear hyl h128
              gi_wp2_with fail
              refine hR.mono ?_
              rintro e W3 (⟨rfl, hJ3, hk3⟩ | ⟨rfl, hJx3⟩)
              · clear hR hy hJx
                gi_wp2_with fail
                go_roundw
                case rel => exact ⟨0, 0, _, X.drop 128, f', jj + 1, rfl, by omega, by omega, by omega, by omega, by rw [HX0.out]; exact Bs.empty _ _ _, fun _ _ h => absurd h (by omega), hJ3, hcx.and hk3, HNEXT⟩
                case measure => simp; omega
              · clear hR hy
                gi_wp2_with fail
                refine bodyPost_ret (results_none rfl _ _ _) rfl ?_
                exact ⟨⟨_, rfl⟩, .inr hJx3⟩
            · obtain ⟨fn, tmps, assign, body, hy, hR⟩ := hyl _ (HVAL.out m (.inr ⟨rfl, by omega⟩))
              clear hyl h128
              gi_wp2_with fail
              refine hR.mono ?_
              rintro e W3 (⟨rfl, hJ3, hk3⟩ | ⟨rfl, hJx3⟩)
              · clear hR hy hJx
                gi_wp2_with fail
                go_roundw
                case rel => exact ⟨0, c - m, _, X.drop 128, f', jj + 1, rfl, by omega, by omega, by omega, by omega, by rw [HX0.out]; exact Bs.empty _ _ _, fun _ _ h => absurd h (by omega), hJ3, hcx.and hk3, HNEXT⟩
                case measure => simp; omega
              · clear hR hy
                gi_wp2_with fail
                refine bodyPost_ret (results_none rfl _ _ _) rfl ?_
                exact ⟨⟨_, rfl⟩, .inr hJx3⟩
        · obtain rfl : m = 0 := by omega
          have hX : X = [] := List.eq_nil_of_length_eq_zero hbs.len
          subst hX
          have hjj : jj = (Wal.secsAll (rs.take (k + 1))).length := by
            obtain ⟨_, _, _, h3⟩ := HPRE.out
            rw [chunks_none] at h3
            simpa using h3
          have HJ2 := Lib.hid hjj
          clear hjj HPRE hbs hblk hpos
          gi_wp2_with fail
          go_roundw
          case rel => exact ⟨k + 1, jj, by omega, by go_num, HJ2, hJx, hcx⟩
          case measure => simp [intOf]; omega
    · obtain rfl : k = nr := by omega
      have hJN : J C.length wr := by
        have := HJJ.out
        rw [List.take_of_length_le (by rw [HRL.out]; exact Nat.le_refl _), HC.out] at this
        rw [← this]
        exact hj
      clear hj
      gi_wp2
      go_end0
      exact ⟨⟨_, rfl⟩, .inl hJN⟩
end Go.Proofs.Ytgaplcgenlphdaa
