/- THE WALK of the reference's block. -/
import Derived.Test.YtmbpnkacggngkaaGreatDoorShaBytes
import Derived.Test.YtmbpnkacggngkaaGreatDoorBatch
namespace Go.Proofs.YtmbpnkacggngkaaGreatDoor
open Go.RowKit Mem

/-- How a digest of 32 bits is made, in memory. -/
structure HIn (w : World) (hc : List Value) (A : Option Addr) (cA : Nat) (B : Option Addr) (cB : Nat) (C : Option Addr) (cC : Nat) (D : Option Addr) (cD : Nat) (K : Option Addr) (cK : Nat) (F : Option Addr) (cF : Nat) : Prop where
  eq : hc = [.int .i64 32, .int .i64 64, .slice A 3 cA, .slice B 3 cB, .slice C 3 cC, .slice D 3 cD, .slice K 64 cK, .slice F 8 cF]
  a : Is w A 3 [((2 : Nat) : Int), ((13 : Nat) : Int), ((22 : Nat) : Int)]
  b : Is w B 3 [((6 : Nat) : Int), ((11 : Nat) : Int), ((25 : Nat) : Int)]
  c : Is w C 3 [((7 : Nat) : Int), ((18 : Nat) : Int), ((3 : Nat) : Int)]
  d : Is w D 3 [((17 : Nat) : Int), ((19 : Nat) : Int), ((10 : Nat) : Int)]
  k : Ws w K 64 (Sha.tops 3 64)
  f : Ws w F 8 (Sha.tops 2 8)
  kc : 64 ≤ cK
  fc : 8 ≤ cF
theorem HIn.h32 {w : World} {hc : List Value} {A B C D K F : Option Addr} {cA cB cC cD cK cF : Nat} (h : HIn w hc A cA B cB C cC D cD K cK F cF) : H32 hc := by
  rw [h.eq]
  refine ⟨rfl, rfl, rfl, fun v hv => ?_⟩
  simp only [List.mem_cons, List.not_mem_nil, or_false] at hv
  rcases hv with rfl | rfl | rfl | rfl | rfl | rfl | rfl | rfl <;> rfl
theorem HIn.below {w w' : World} {hc : List Value} {A B C D K F : Option Addr} {cA cB cC cD cK cF : Nat} (h : HIn w hc A cA B cB C cC D cD K cK F cF) (hb : Below w.heap.size w w') : HIn w' hc A cA B cB C cC D cD K cK F cF :=
  ⟨h.eq, h.a.below hb, h.b.below hb, h.c.below hb, h.d.below hb, h.k.below hb, h.f.below hb, h.kc, h.fc⟩
/-- A row of the call's own, where it lies. -/
theorem own_lit {w : World} {base n c : Nat} {e : TypeId} {A : Option Addr} {xs : List Value} (h : w.ownsRow base e 1 (.slice A n c) n xs) (hn : 0 < n) : ∃ g, A = some ⟨g, 0, none⟩ ∧ base ≤ g ∧ g < w.heap.size ∧ ∀ k u, xs[k]? = some u → w.cell? ⟨g, k, none⟩ = some u := by
  obtain ⟨g, e, h1, h2⟩ := own_some h hn
  subst e
  refine ⟨g, rfl, h1, h2, fun k u hk => ?_⟩
  have := h.cells (g := g) rfl k u hk
  rwa [zero_add_] at this
/-- Which words are mixed, and what they give. -/
inductive MixArg (w : World) : Option Addr → Nat → Nat → Bool → Nat → Prop
  | mk (P : Option Addr) (cap m a b c : Nat) (sh : Bool) (h : Is w P 3 [(a : Int), (b : Int), (c : Int)]) (hm : m < 4294967296) (ha : a ≤ 64) (hb : b ≤ 64) (hc : c ≤ 64) : MixArg w P cap m sh (Sha.mixed a b c sh m)
theorem mix_arg {w : World} {P : Option Addr} {cap m z : Nat} {sh : Bool} (h : MixArg w P cap m sh z) {hc : List Value} (h32 : H32 hc) {w' : World} (hb : Below w.heap.size w w') :
    Calls Tryz.prog 157 #[.agg hc.toArray, .int .u64 (m : Int), .slice P 3 cap, .bool sh] w' fun e w'' => e = .returned (.int .u64 (z : Int)) ∧ Below w.heap.size w w'' := by
  match h with
  | .mk _ _ _ a b c _ h1 hm ha hb' hc' => exact (rmixed_any hc h32 a b c m hm ha hb' hc' sh P cap w' (h1.below hb)).mono fun e w'' ⟨he, hb2⟩ => ⟨he, hb.trans (hb2.mono hb.size)⟩
theorem mix_any {w : World} {P : Option Addr} {cap m z : Nat} {sh : Bool} (h : MixArg w P cap m sh z) {hc : List Value} (h32 : H32 hc) {w' : World} (hb : Below w.heap.size w w') :
    Calls Tryz.prog 157 #[.agg hc.toArray, .int .u64 (m : Int), .slice P 3 cap, .bool sh] w' fun e w'' => e = .returned (.int .u64 (z : Int)) ∧ Below w'.heap.size w' w'' := by
  match h with
  | .mk _ _ _ a b c _ h1 hm ha hb' hc' => exact rmixed_any hc h32 a b c m hm ha hb' hc' sh P cap w' (h1.below hb)
/-- What a step is made of. -/
structure StepR (Rn : List Nat) (r0 r1 r2 r3 r4 r5 r6 r7 kt wt p1 p2 : Nat) : Prop where
  b0 : r0 < 4294967296
  b1 : r1 < 4294967296
  b2 : r2 < 4294967296
  b3 : r3 < 4294967296
  b4 : r4 < 4294967296
  b5 : r5 < 4294967296
  b6 : r6 < 4294967296
  b7 : r7 < 4294967296
  bk : kt < 4294967296
  bw : wt < 4294967296
  q1 : p1 < 4294967296
  q2 : p2 < 4294967296
  eq : Rn = [((r7 + p1 + ((r4 &&& r5) ^^^ ((4294967295 ^^^ r4) &&& r6)) + kt + wt) % 4294967296 + (p2 + ((r0 &&& r1) ^^^ (r0 &&& r2) ^^^ (r1 &&& r2))) % 4294967296) % 4294967296, r0, r1, r2, (r3 + (r7 + p1 + ((r4 &&& r5) ^^^ ((4294967295 ^^^ r4) &&& r6)) + kt + wt) % 4294967296) % 4294967296, r4, r5, r6]
theorem StepR.mk' {R Rn : List Nat} {kt wt : Nat} (h : Sha.All32 R) (hk : kt < 4294967296) (hw : wt < 4294967296) (hR : Rn = Sha.step kt wt R) :
    StepR Rn (R.getD 0 0) (R.getD 1 0) (R.getD 2 0) (R.getD 3 0) (R.getD 4 0) (R.getD 5 0) (R.getD 6 0) (R.getD 7 0) kt wt (Sha.big1 (R.getD 4 0)) (Sha.big0 (R.getD 0 0)) :=
  ⟨h.at_ 0, h.at_ 1, h.at_ 2, h.at_ 3, h.at_ 4, h.at_ 5, h.at_ 6, h.at_ 7, hk, hw, Sha.mixed_lt (h.at_ 4) _ _ _ _, Sha.mixed_lt (h.at_ 0) _ _ _ _, hR⟩
theorem stepX_int {r4 r5 r6 r7 kt wt p1 : Nat} (b4 : r4 < 4294967296) (b6 : r6 < 4294967296) (b5 : r5 < 4294967296) :
    (IntKind.u64.wrap (IntKind.u64.wrap (IntKind.u64.wrap (IntKind.u64.wrap ((r7 : Int) + p1) + bits BinOp.xor IntKind.u64 (bits BinOp.and IntKind.u64 r4 r5) (bits BinOp.and IntKind.u64 (bits BinOp.xor IntKind.u64 4294967295 r4) r6)) + kt) + wt)).tmod 4294967296 =
      (((r7 + p1 + ((r4 &&& r5) ^^^ ((4294967295 ^^^ r4) &&& r6)) + kt + wt) % 4294967296 : Nat) : Int) := by
  have a1 := u64_and_nat r4 r5 (by omega) (by omega)
  have x1 : bits .xor .u64 4294967295 (r4 : Int) = ((4294967295 ^^^ r4 : Nat) : Int) := u64_xor_nat 4294967295 r4 (by omega) (by omega)
  have hx1 := Sha.xor_lt (show 4294967295 < 4294967296 by omega) b4
  have a2 := u64_and_nat (4294967295 ^^^ r4) r6 (by omega) (by omega)
  have ha1 := Sha.and_lt (b := r5) b4
  have ha2 := Sha.and_lt (b := r6) hx1
  have x2 := u64_xor_nat (r4 &&& r5) ((4294967295 ^^^ r4) &&& r6) (by omega) (by omega)
  have hx2 := Sha.xor_lt ha1 ha2
  rw [a1, x1, a2, x2]
  generalize (r4 &&& r5) ^^^ ((4294967295 ^^^ r4) &&& r6) = z at *
  simp only [IntKind.wrap_u64]
  rw [Int.tmod_eq_emod_of_nonneg (by omega)]
  omega
theorem stepY_int {r0 r1 r2 p2 : Nat} (b0 : r0 < 4294967296) (b1 : r1 < 4294967296) (b2 : r2 < 4294967296) :
    (IntKind.u64.wrap ((p2 : Int) + bits BinOp.xor IntKind.u64 (bits BinOp.xor IntKind.u64 (bits BinOp.and IntKind.u64 r0 r1) (bits BinOp.and IntKind.u64 r0 r2)) (bits BinOp.and IntKind.u64 r1 r2))).tmod 4294967296 =
      (((p2 + ((r0 &&& r1) ^^^ (r0 &&& r2) ^^^ (r1 &&& r2))) % 4294967296 : Nat) : Int) := by
  have a3 := u64_and_nat r0 r1 (by omega) (by omega)
  have a4 := u64_and_nat r0 r2 (by omega) (by omega)
  have a5 := u64_and_nat r1 r2 (by omega) (by omega)
  have ha3 := Sha.and_lt (b := r1) b0
  have ha4 := Sha.and_lt (b := r2) b0
  have ha5 := Sha.and_lt (b := r2) b1
  have x3 := u64_xor_nat (r0 &&& r1) (r0 &&& r2) (by omega) (by omega)
  have hx3 := Sha.xor_lt ha3 ha4
  have x4 := u64_xor_nat ((r0 &&& r1) ^^^ (r0 &&& r2)) (r1 &&& r2) (by omega) (by omega)
  have hx4 := Sha.xor_lt hx3 ha5
  rw [a3, a4, a5, x3, x4]
  generalize (r0 &&& r1) ^^^ (r0 &&& r2) ^^^ (r1 &&& r2) = z at *
  simp only [IntKind.wrap_u64]
  rw [Int.tmod_eq_emod_of_nonneg (by omega)]
  omega
theorem sum_int (x y : Nat) : ((x : Int) + y).tmod 4294967296 = (((x + y) % 4294967296 : Nat) : Int) := by
  rw [Int.tmod_eq_emod_of_nonneg (by omega)]
  omega
theorem bs_lit {w : World} {A : Option Addr} {n : Nat} {l : List UInt8} (h : Bs w w.heap.size A n l) (hn : 0 < n) : ∃ blk off, A = some ⟨blk, off, none⟩ ∧ blk < w.heap.size ∧ ∀ k, k < n → w.cell? ⟨blk, off + k, none⟩ = some (.int .u8 (((l.getD k 0).toNat : Nat) : Int)) := by
  have hl := h.len
  obtain ⟨blk, off, e, hb, hx⟩ := vs_lit h hn
  refine ⟨blk, off, e, hb, fun k hk => hx k _ ?_⟩
  rw [bv_at, List.getElem?_eq_getElem (by omega)]
  simp [List.getD_eq_getElem?_getD, show k < l.length by omega]
/-- 'append' onto words. -/
theorem below_own {w w' : World} {base : Nat} {e : TypeId} {v : Value} {n : Nat} {xs : List Value} (h : w.ownsRow base e 1 v n xs) (hb : Below w.heap.size w w') : w'.ownsRow base e 1 v n xs := by
  refine ⟨h.1, ?_⟩
  rcases h.2 with h2 | ⟨g, cap, cur, hv, hg, hh, r⟩
  · exact .inl h2
  · exact .inr ⟨g, cap, cur, hv, hg, by rw [hb.block g (Array.getElem?_eq_some_iff.1 hh).1]; exact hh, r⟩
set_option maxRecDepth 100000 in
set_option maxHeartbeats 4000000 in
theorem rblock_any (hc : List Value) (A : Option Addr) (cA : Nat) (B : Option Addr) (cB : Nat) (C : Option Addr) (cC : Nat) (D : Option Addr) (cD : Nat) (K : Option Addr) (cK : Nat) (F : Option Addr) (cF : Nat)
    (As : Option Addr) (cs : Nat) (s : List Nat) (Ab : Option Addr) (cb : Nat) (b : List UInt8) (w : World) (h : HIn w hc A cA B cB C cC D cD K cK F cF) (hs : Ws w As 8 s) (hs32 : Sha.All32 s) (hcs : 8 ≤ cs) (hb : Bs w w.heap.size Ab 64 b) :
    Calls Tryz.prog 127 #[.agg hc.toArray, .slice As 8 cs, .slice Ab 64 cb] w fun e w' => ∃ A' c', e = .returned (.slice A' 8 c') ∧ 8 ≤ c' ∧ Ws w' A' 8 (Sha.block (Sha.tops 3 64) s b) ∧ Below w.heap.size w w' := by
  obtain ⟨i0, hi, hz0, hz1, hz2⟩ := info_parts infoW
  have h32 := h.h32
  obtain ⟨W, hW⟩ : ∃ W, w.alloc (.cells hc.toArray 114) = W := ⟨_, rfl⟩
  have BH : Blk W w.heap.size hc 114 := by rw [← hW]; exact Blk.new _ _ _
  have hbW : Below w.heap.size w W := by rw [← hW]; exact (Below.refl _ _).alloc (Nat.le_refl _) _
  have HH : HIn W hc A cA B cB C cC D cD K cK F cF := h.below hbW
  have hsW := hs.below hbW
  have hbW2 : Bs W W.heap.size Ab 64 b := vs_below hb hbW
  obtain ⟨bb, ob, rfl, hbb, hbc⟩ := bs_lit hbW2 (by omega)
  have c0 : ∀ wr, Below W.heap.size W wr → wr.cell? ⟨w.heap.size, 0, none⟩ = some (.int .i64 32) := fun wr hr => ((BH.below hr).cell 0).trans h32.bits
  have c1 : ∀ wr, Below W.heap.size W wr → wr.cell? ⟨w.heap.size, 1, none⟩ = some (.int .i64 64) := fun wr hr => ((BH.below hr).cell 1).trans h32.steps
  have HC0 := Lib.hid c0
  have HC1 := Lib.hid c1
  have HBC : Hid (∀ wr, Below W.heap.size W wr → ∀ k, k < 64 → wr.cell? ⟨bb, ob + k, none⟩ = some (.int .u8 (((b.getD k 0).toNat : Nat) : Int))) := Lib.hid fun wr hr k hk => (hr.cell (p := ⟨bb, ob + k, none⟩) hbb).trans (hbc k hk)
  have HW := Lib.hid hW
  clear hW c0 c1 hbc hb hs h
  go_enter Tryz.func127, Tryz.ntmps127
  go_upto_region 2 with fail
  rw [HW.out]
  go_wp2_with fail
  go_loopw [7, 8, 9, 10] (fun v t _ _ wr => ∃ (T : Nat) (A7 : Option Addr) (c7 : Nat), T ≤ 16 ∧ t = .int .i64 T ∧ v = .slice A7 T c7 ∧ Below W.heap.size W wr ∧ wr.ownsRow W.heap.size 151 1 (.slice A7 T c7) T (wv (Sha.sched1 b T))) (fun _ t _ _ _ => 16 - (intOf t).toNat)
  case atStart => exact ⟨0, none, 0, by omega, rfl, rfl, Below.refl _ _, World.ownsRow_nil _ _ _ _⟩
  case round =>
    obtain ⟨T, A7, c7, hT, rfl, rfl, hbr, hown⟩ := hrel
    have k0 := HC0.out _ hbr
    by_cases h16 : T < 16
    · have HB := Lib.hid (HBC.out _ hbr)
      have hu8 : Int.tdiv ((T : Int) * 32) 8 = ((4 * T : Nat) : Int) := by
        rw [Int.tdiv_eq_ediv_of_nonneg (by omega)]
        omega
      have HS := Lib.hid (show Sha.sched1 b (T + 1) = Sha.sched1 b T ++ [Sha.wordIn b T 4] from rfl)
      obtain ⟨u, hu⟩ : ∃ u, Hid (4 * T = u) := ⟨_, Lib.hid rfl⟩
      have hu60 : u ≤ 60 := by rw [← hu.out]; omega
      rw [hu.out] at hu8
      go_wp2
      go_loop [9, 10] (fun v k => ∃ j : Nat, j ≤ 4 ∧ k = .int .i64 j ∧ v = .int .u64 ((Sha.wordIn b T j : Nat) : Int)) (fun _ k => 4 - (intOf k).toNat)
      case atStart => exact ⟨0, by omega, rfl, rfl⟩
      case round =>
        obtain ⟨j, hj, rfl, rfl⟩ := hrel
        by_cases h4 : j < 4
        · have cj := HB.out (u + j) (by omega)
          have HX := Lib.hid (show Sha.wordIn b T (j + 1) = Sha.wordIn b T j * 256 + (b.getD (4 * T + j) 0).toNat from rfl)
          rw [hu.out] at HX
          have hx1 := Sha.wordIn_lt b T j
          have hx2 : Sha.wordIn b T j < 16777216 := Nat.lt_of_lt_of_le hx1 (Nat.le_trans (Nat.pow_le_pow_right (by omega) (show j ≤ 3 by omega)) (by decide))
          have hy := (b.getD (u + j) 0).toNat_lt
          generalize (b.getD (u + j) 0).toNat = y at *
          generalize Sha.wordIn b T j = x at *
          clear hx1
          have hy : y < 256 := hy
          go_wp2
          go_round
          case rel => exact ⟨j + 1, by omega, by go_num, by rw [HX.out, Int.natCast_add, Int.natCast_mul]; rfl⟩
          case measure => simp [intOf]; omega
        · obtain rfl : j = 4 := by omega
          have h63 : T + 1 ≤ maxLen := by unfold maxLen; omega
          have hB1 : W.heap.size ≤ wr.heap.size := hbr.size
          clear HB hu8 hu
          go_wp2_with (at_builtin; go_must (refine wpList_push rfl (.tmp 47) (.tmp 49) 112 rfl W.heap.size i0 (.int .u64 0) 8 Tryz.underlying112 hi hz0 hz1 hz2 rfl _ _ _ rfl hown rfl rfl h63 (by omega) hB1 ?_))
          intro A' c' w2 hown' g1' g2' hgr
          have hb2 := below_push hbr hgr hB1 hown (Nat.le_refl _)
          rw [show wv (Sha.sched1 b T) ++ [.int .u64 ((Sha.wordIn b T 4 : Nat) : Int)] = wv (Sha.sched1 b (T + 1)) by rw [HS.out, wv_append]; rfl] at hown'
          clear hown hgr hbr
          go_wp2
          go_roundw
          case rel => exact ⟨T + 1, A', c', by omega, by go_num, rfl, hb2, hown'⟩
          case measure => simp [intOf]; omega
    · have hT16 : T = 16 := by omega
      have HT := Lib.hid hT16
      have hTb : T ≤ 16 := hT
      clear k0 hT16 hT
      have HS32 := Lib.hid (Sha.sched2_32 b)
      have HSL := Lib.hid (Sha.sched2_len b)
      have hown : wr.ownsRow W.heap.size 151 1 (.slice A7 T c7) T (wv (Sha.sched2 b 0)) := by
        have := hown
        rw [show Sha.sched1 b T = Sha.sched2 b 0 by rw [HT.out]; rfl] at this
        exact this
      go_wp2_with fail
      go_loopw [7, 11, 12] (fun v t _ wr => ∃ (u : Nat) (A7 : Option Addr) (n c7 : Nat), u ≤ 48 ∧ n = 16 + u ∧ t = .int .i64 (n : Int) ∧ v = .slice A7 n c7 ∧ Below W.heap.size W wr ∧ wr.ownsRow W.heap.size 151 1 (.slice A7 n c7) n (wv (Sha.sched2 b u))) (fun _ t _ _ => (100 - intOf t).toNat)
      case atStart => exact ⟨0, A7, T, c7, by omega, by rw [HT.out], by rw [HT.out]; rfl, rfl, hbr, hown⟩
      case round =>
        clear hown hbr
        obtain ⟨u, A7, n, c7, hu, hn, rfl, rfl, hbr, hown⟩ := hrel
        have k1 := HC1.out _ hbr
        by_cases h48 : u < 48
        · have hbox := BH.below hbr
          have HHr := HH.below hbr
          obtain ⟨g7, rfl, hg1, hg2, hg3⟩ := own_lit hown (by omega)
          have hl7 := HSL.out u
          have h732 := HS32.out u
          have HS := Lib.hid (show Sha.sched2 b (u + 1) = Sha.sched2 b u ++ [Sha.next (Sha.sched2 b u) u] from rfl)
          unfold Sha.next at HS
          obtain ⟨j1, hj1⟩ : ∃ j, u + 1 = j := ⟨_, rfl⟩
          obtain ⟨j9, hj9⟩ : ∃ j, u + 9 = j := ⟨_, rfl⟩
          obtain ⟨j14, hj14⟩ : ∃ j, u + 14 = j := ⟨_, rfl⟩
          rw [hj1, hj9, hj14] at HS
          have e0 := hg3 u _ (wv_at _ (by omega))
          have e1 := hg3 (j1) _ (wv_at _ (by omega))
          have e9 := hg3 (j9) _ (wv_at _ (by omega))
          have e14 := hg3 (j14) _ (wv_at _ (by omega))
          have b0 := h732.at_ u
          have b1 := h732.at_ (j1)
          have b9 := h732.at_ (j9)
          have b14 := h732.at_ (j14)
          generalize Sha.sched2 b u = L7 at *
          generalize L7.getD u 0 = x0 at *
          generalize L7.getD (j1) 0 = x1 at *
          generalize L7.getD (j9) 0 = x9 at *
          generalize L7.getD (j14) 0 = x14 at *
          have z1b : Sha.sig0 x1 < 4294967296 := Sha.mixed_lt b1 _ _ _ _
          have z2b : Sha.sig1 x14 < 4294967296 := Sha.mixed_lt b14 _ _ _ _
          have M1 : MixArg wr C cC x1 true (Sha.sig0 x1) := .mk _ _ _ _ _ _ _ HHr.c b1 (by omega) (by omega) (by omega)
          have M2 : MixArg wr D cD x14 true (Sha.sig1 x14) := .mk _ _ _ _ _ _ _ HHr.d b14 (by omega) (by omega) (by omega)
          generalize Sha.sig0 x1 = z1 at *
          generalize Sha.sig1 x14 = z2 at *
          have hkey : ∀ w', Below wr.heap.size wr w' → w'.cell? ⟨g7, u, none⟩ = some (.int .u64 (x0 : Int)) ∧ w'.cell? ⟨g7, j1, none⟩ = some (.int .u64 (x1 : Int)) ∧ w'.cell? ⟨g7, j9, none⟩ = some (.int .u64 (x9 : Int)) ∧ w'.cell? ⟨g7, j14, none⟩ = some (.int .u64 (x14 : Int)) ∧ w'.cell? ⟨w.heap.size, 4, none⟩ = some (.slice C 3 cC) ∧ w'.cell? ⟨w.heap.size, 5, none⟩ = some (.slice D 3 cD) ∧ (loadH (.pointer (some ⟨w.heap.size, 0, none⟩))).run Tryz.prog w' = .ok (.agg hc.toArray) w' ∧ Below wr.heap.size wr w' := fun w' hb' =>
            ⟨(hb'.cell (p := ⟨g7, u, none⟩) hg2).trans e0, (hb'.cell (p := ⟨g7, j1, none⟩) hg2).trans e1, (hb'.cell (p := ⟨g7, j9, none⟩) hg2).trans e9, (hb'.cell (p := ⟨g7, j14, none⟩) hg2).trans e14,
             ((hbox.below hb').cell 4).trans (by rw [HHr.eq]; rfl), ((hbox.below hb').cell 5).trans (by rw [HHr.eq]; rfl), load_H (hbox.below hb') h32.len, hb'⟩
          have MIX : Hid (∀ P cap m z, MixArg wr P cap m true z → ∀ w', (w'.cell? ⟨g7, u, none⟩ = some (.int .u64 (x0 : Int)) ∧ w'.cell? ⟨g7, j1, none⟩ = some (.int .u64 (x1 : Int)) ∧ w'.cell? ⟨g7, j9, none⟩ = some (.int .u64 (x9 : Int)) ∧ w'.cell? ⟨g7, j14, none⟩ = some (.int .u64 (x14 : Int)) ∧ w'.cell? ⟨w.heap.size, 4, none⟩ = some (.slice C 3 cC) ∧ w'.cell? ⟨w.heap.size, 5, none⟩ = some (.slice D 3 cD) ∧ (loadH (.pointer (some ⟨w.heap.size, 0, none⟩))).run Tryz.prog w' = .ok (.agg hc.toArray) w' ∧ Below wr.heap.size wr w') →
              Calls Tryz.prog 157 #[.agg hc.toArray, .int .u64 (m : Int), .slice P 3 cap, .bool true] w' fun e w'' => e = .returned (.int .u64 (z : Int)) ∧ (w''.cell? ⟨g7, u, none⟩ = some (.int .u64 (x0 : Int)) ∧ w''.cell? ⟨g7, j1, none⟩ = some (.int .u64 (x1 : Int)) ∧ w''.cell? ⟨g7, j9, none⟩ = some (.int .u64 (x9 : Int)) ∧ w''.cell? ⟨g7, j14, none⟩ = some (.int .u64 (x14 : Int)) ∧ w''.cell? ⟨w.heap.size, 4, none⟩ = some (.slice C 3 cC) ∧ w''.cell? ⟨w.heap.size, 5, none⟩ = some (.slice D 3 cD) ∧ (loadH (.pointer (some ⟨w.heap.size, 0, none⟩))).run Tryz.prog w'' = .ok (.agg hc.toArray) w'' ∧ Below wr.heap.size wr w'')) :=
            Lib.hid fun P cap m z hM w' hS => (mix_arg hM h32 hS.2.2.2.2.2.2.2).mono fun e w'' ⟨he, hb2⟩ => ⟨he, hkey w'' hb2⟩
          have HS0 := Lib.hid (hkey wr (Below.refl _ _))
          have HS1 := Lib.hid (hkey wr.drew (Below.refl _ _).drew)
          clear e0 e1 e9 e14 hg3 hkey hl7 h732 b1 b14 HHr
          have i0_ : IntKind.i64.wrap ((n : Int) - 16) = (u : Int) := by rw [IntKind.wrap_i64]; omega
          have i1_ : IntKind.i64.wrap ((n : Int) - 15) = (j1 : Int) := by rw [IntKind.wrap_i64]; omega
          have i9_ : IntKind.i64.wrap ((n : Int) - 7) = (j9 : Int) := by rw [IntKind.wrap_i64]; omega
          have i14_ : IntKind.i64.wrap ((n : Int) - 2) = (j14 : Int) := by rw [IntKind.wrap_i64]; omega
          have p0 : (0 : Int) ≤ (u : Int) := by omega
          have p1 : (0 : Int) ≤ (j1 : Int) := by omega
          have p9 : (0 : Int) ≤ (j9 : Int) := by omega
          have p14 : (0 : Int) ≤ (j14 : Int) := by omega
          have q0 : (u : Int) < (n : Int) := by omega
          have q1 : (j1 : Int) < (n : Int) := by omega
          have q9 : (j9 : Int) < (n : Int) := by omega
          have q14 : (j14 : Int) < (n : Int) := by omega
          have hn64 : (n : Int) < 64 := by omega
          have HN := Lib.hid hn
          have HJ1 := Lib.hid hj1
          clear hj1 hj9 hj14
          clear hn
          go_wp2_with fail
          go_region_held3 (fun w' => w'.cell? ⟨g7, u, none⟩ = some (.int .u64 (x0 : Int)) ∧ w'.cell? ⟨g7, j1, none⟩ = some (.int .u64 (x1 : Int)) ∧ w'.cell? ⟨g7, j9, none⟩ = some (.int .u64 (x9 : Int)) ∧ w'.cell? ⟨g7, j14, none⟩ = some (.int .u64 (x14 : Int)) ∧ w'.cell? ⟨w.heap.size, 4, none⟩ = some (.slice C 3 cC) ∧ w'.cell? ⟨w.heap.size, 5, none⟩ = some (.slice D 3 cD) ∧ (loadH (.pointer (some ⟨w.heap.size, 0, none⟩))).run Tryz.prog w' = .ok (.agg hc.toArray) w' ∧ Below wr.heap.size wr w') (first | exact HS1.out | exact HS0.out | assumption | go_keep) (first | (go_at_call 157; refine (MIX.out _ _ _ _ (by assumption) _ (by first | assumption | exact HS1.out)).mono ?_; rintro e wq ⟨rfl, hs1⟩))
          clear HS0 HS1 MIX M1 M2 i0_ i1_ i9_ i14_ p0 p1 p9 p14 q1 q9 q14
          obtain ⟨_, _, _, _, _, _, hld, hbq⟩ := hs1
          have hownq := below_own hown hbq
          have hbrq : Below W.heap.size W wq := hbr.trans (hbq.mono hbr.size)
          have hlow := rlowI hc h32 ((x0 : Int) + (z1 : Int) + (x9 : Int) + (z2 : Int)) wq
          have htm : Int.tmod ((x0 : Int) + (z1 : Int) + (x9 : Int) + (z2 : Int)) 4294967296 = (((x0 + z1 + x9 + z2) % 4294967296 : Nat) : Int) := by
            rw [Int.tmod_eq_emod_of_nonneg (by omega)]
            omega
          rw [htm] at hlow
          obtain ⟨y, hy⟩ : ∃ y, (x0 + z1 + x9 + z2) % 4294967296 = y := ⟨_, rfl⟩
          rw [hy] at hlow HS
          clear hy htm
          have hn64' : n < 64 := by omega
          go_wp2_with fail
          refine hlow.mono ?_
          rintro e w5 ⟨rfl, hb5⟩
          have hown5 := below_own hownq hb5
          have hbr5 := hbrq.trans (hb5.mono hbrq.size)
          have h63 : n + 1 ≤ maxLen := by unfold maxLen; omega
          have hB1 : W.heap.size ≤ w5.heap.size := hbr5.size
          clear hlow hown hownq hbq hb5 hld
          go_wp2_with (at_builtin; go_must (refine wpList_push rfl (.tmp 88) (.tmp 92) 112 rfl W.heap.size i0 (.int .u64 0) 8 Tryz.underlying112 hi hz0 hz1 hz2 rfl _ _ _ rfl hown5 rfl rfl h63 (by omega) hB1 ?_))
          intro A' c' w6 hown' g1' g2' hgr
          have hb6 := below_push hbr5 hgr hB1 hown5 (Nat.le_refl _)
          have hrep : wv L7 ++ [.int .u64 (y : Int)] = wv (Sha.sched2 b j1) := by rw [HS.out, wv_append]; rfl
          rw [hrep] at hown'
          clear hown5 hgr hrep hbrq hbr5
          have HRES : Hid (u + 1 ≤ 48 ∧ n + 1 = 16 + (u + 1) ∧ w6.ownsRow W.heap.size 151 1 (.slice A' (n + 1) c') (n + 1) (wv (Sha.sched2 b (u + 1)))) := Lib.hid ⟨by omega, by have := HN.out; omega, by rw [HJ1.out]; exact hown'⟩
          go_wp2
          go_roundw
          case rel => exact ⟨u + 1, A', n + 1, c', HRES.out.1, HRES.out.2.1, by go_num, rfl, hb6, HRES.out.2.2⟩
          case measure => simp [intOf]; omega
        · have hu48 : u = 48 := by omega
          subst hu48
          have HN64 := Lib.hid (show n = 64 by omega)
          have hn64 : 64 ≤ n := by omega
          clear hn hu
          have h63a : 0 + 8 ≤ maxLen := by unfold maxLen; omega
          have hB1 : W.heap.size ≤ wr.heap.size := hbr.size
          have hsr := hsW.below hbr
          go_wp2_with (at_builtin; go_must (refine wpList_append wr rfl (.tmp 94) (.tmp 95) 112 rfl wr.heap.size 151 i0 (.int .u64 0) 1 8 Tryz.underlying112 hi hz0 hz1 hz2 rfl (by omega) _ 0 [] rfl (World.ownsRow_nil _ _ _ _) wr.heap.size _ 8 _ _ rfl hsr (wv_one _) h63a (by omega) (Nat.le_refl _) ?_))
          intro A13 c13 W5 hown13 g13 g13' hgr
          have hb5 : Below wr.heap.size wr W5 := below_grown (Below.refl _ _) hgr (Nat.le_refl _) (World.ownsRow_nil wr wr.heap.size 151 1)
          have hbW5 : Below W.heap.size W W5 := hbr.trans (hb5.mono hbr.size)
          have hw7 : Ws W5 A7 n (Sha.sched2 b 48) := (Ws.of_own hown).below hb5
          have hS5 : Ws W5 A13 8 s := Ws.of_own hown13
          have hH5 := HH.below hbW5
          have HBOX := Lib.hid (BH.below hbW5)
          have hs8 : s.length = 8 := hS5.len
          have HK := Lib.hid (Sha.tops_32 3 64)
          obtain ⟨Ks, hKs⟩ : ∃ Ks, Sha.tops 3 64 = Ks := ⟨_, rfl⟩
          rw [hKs] at HK
          have hK5 : Ws W5 K 64 Ks := by rw [← hKs]; exact hH5.k
          have HWW := Lib.hid (Sha.sched2_32 b 48)
          obtain ⟨Ww, hWw⟩ : ∃ Ww, Sha.sched2 b 48 = Ww := ⟨_, rfl⟩
          rw [hWw] at hw7 HWW
          have HKS := Lib.hid hKs
          have HWS := Lib.hid hWw
          obtain ⟨gk, ok, hKe, hgk, hkc⟩ := vs_lit hK5 (by omega)
          subst hKe
          obtain ⟨g7, o7, h7e, hg7, h7c⟩ := vs_lit hw7 (by omega)
          subst h7e
          have hkl := hK5.len
          have hwl := hw7.len
          have HKC := Lib.hid hkc
          have H7C := Lib.hid h7c
          have HKL := Lib.hid hkl
          have HWL := Lib.hid hwl
          have HS8 := Lib.hid hs8
          clear hsr hgr hown hown13 hb5 hw7 hK5 hkc h7c hkl hwl hs8 hKs hWw hbr k1 h63a
          go_wp2_with fail
          go_loopw [13, 14, 15, 16, 17, 18, 19] (fun rv t _ _ _ _ _ wr => ∃ (Q : Nat) (Ar : Option Addr) (cr : Nat), Q ≤ 64 ∧ t = .int .i64 (Q : Int) ∧ rv = .slice Ar 8 cr ∧ 8 ≤ cr ∧ Below W5.heap.size W5 wr ∧ Ws wr Ar 8 (Sha.steps Ks Ww s Q)) (fun _ t _ _ _ _ _ _ => 64 - (intOf t).toNat)
          case atStart => exact ⟨0, A13, c13, by omega, rfl, rfl, g13, Below.refl _ _, hS5⟩
          case round =>
            clear hS5 g13 g13'
            obtain ⟨Q, Ar, cr, hQ, rfl, rfl, hcr, hbr, hR⟩ := hrel
            have hbrW : Below W.heap.size W wr := hbW5.trans (hbr.mono hbW5.size)
            have k1 := HC1.out _ hbrW
            by_cases hQ64 : Q < 64
            · have hbox := HBOX.out.below hbr
              have hHr := hH5.below hbr
              obtain ⟨gr, orr, hre, hgr, hrc⟩ := vs_lit hR (by omega)
              subst hre
              have hRl := hR.len
              have hR32 := Sha.steps_32 hs32 Ks Ww Q
              have HS := Lib.hid (show Sha.steps Ks Ww s (Q + 1) = Sha.step (Ks.getD Q 0) (Ww.getD Q 0) (Sha.steps Ks Ww s Q) from rfl)
              generalize Sha.steps Ks Ww s Q = R at *
              have e0 : wr.cell? ⟨gr, orr, none⟩ = some (.int .u64 ((R.getD 0 0 : Nat) : Int)) := hrc 0 _ (wv_at R (by omega))
              have e1 := hrc 1 _ (wv_at R (by omega))
              have e2 := hrc 2 _ (wv_at R (by omega))
              have e3 := hrc 3 _ (wv_at R (by omega))
              have e4 := hrc 4 _ (wv_at R (by omega))
              have e5 := hrc 5 _ (wv_at R (by omega))
              have e6 := hrc 6 _ (wv_at R (by omega))
              have e7 := hrc 7 _ (wv_at R (by omega))
              have ek := (hbr.cell (p := ⟨gk, ok + Q, none⟩) hgk).trans (HKC.out Q _ (wv_at Ks (by rw [HKL.out]; exact hQ64)))
              have ew := (hbr.cell (p := ⟨g7, o7 + Q, none⟩) hg7).trans (H7C.out Q _ (wv_at Ww (by rw [HWL.out]; omega)))
              have SR := Lib.hid (StepR.mk' hR32 (HK.out.at_ Q) (HWW.out.at_ Q) HS.out)
              have b0 := hR32.at_ 0
              have b4 := hR32.at_ 4
              have M1 := Lib.hid (show MixArg wr B cB (R.getD 4 0) false (Sha.big1 (R.getD 4 0)) from .mk _ _ _ _ _ _ _ hHr.b b4 (by omega) (by omega) (by omega))
              have M2 := Lib.hid (show MixArg wr A cA (R.getD 0 0) false (Sha.big0 (R.getD 0 0)) from .mk _ _ _ _ _ _ _ hHr.a b0 (by omega) (by omega) (by omega))
              generalize R.getD 0 0 = r0 at *
              generalize R.getD 1 0 = r1 at *
              generalize R.getD 2 0 = r2 at *
              generalize R.getD 3 0 = r3 at *
              generalize R.getD 4 0 = r4 at *
              generalize R.getD 5 0 = r5 at *
              generalize R.getD 6 0 = r6 at *
              generalize R.getD 7 0 = r7 at *
              generalize Ks.getD Q 0 = kt at *
              generalize Ww.getD Q 0 = wt at *
              generalize Sha.big1 r4 = p1 at *
              generalize Sha.big0 r0 = p2 at *
              have hkey : ∀ w', Below wr.heap.size wr w' → w'.cell? ⟨gr, orr + 1, none⟩ = some (.int .u64 (r1 : Int)) ∧ w'.cell? ⟨gr, orr + 2, none⟩ = some (.int .u64 (r2 : Int)) ∧ w'.cell? ⟨gr, orr + 3, none⟩ = some (.int .u64 (r3 : Int)) ∧ w'.cell? ⟨gr, orr + 5, none⟩ = some (.int .u64 (r5 : Int)) ∧ w'.cell? ⟨gr, orr + 6, none⟩ = some (.int .u64 (r6 : Int)) ∧ w'.cell? ⟨gr, orr + 7, none⟩ = some (.int .u64 (r7 : Int)) ∧ w'.cell? ⟨gk, ok + Q, none⟩ = some (.int .u64 (kt : Int)) ∧ w'.cell? ⟨g7, o7 + Q, none⟩ = some (.int .u64 (wt : Int)) ∧ w'.cell? ⟨w.heap.size, 2, none⟩ = some (.slice A 3 cA) ∧ w'.cell? ⟨w.heap.size, 3, none⟩ = some (.slice B 3 cB) ∧ w'.cell? ⟨w.heap.size, 6, none⟩ = some (.slice (some ⟨gk, ok, none⟩) 64 cK) ∧ (loadH (.pointer (some ⟨w.heap.size, 0, none⟩))).run Tryz.prog w' = .ok (.agg hc.toArray) w' := fun w' hb' =>
                ⟨(hb'.cell (p := ⟨gr, orr + 1, none⟩) hgr).trans e1, (hb'.cell (p := ⟨gr, orr + 2, none⟩) hgr).trans e2, (hb'.cell (p := ⟨gr, orr + 3, none⟩) hgr).trans e3, (hb'.cell (p := ⟨gr, orr + 5, none⟩) hgr).trans e5, (hb'.cell (p := ⟨gr, orr + 6, none⟩) hgr).trans e6, (hb'.cell (p := ⟨gr, orr + 7, none⟩) hgr).trans e7, (hb'.cell (p := ⟨gk, ok + Q, none⟩) (Nat.lt_of_lt_of_le hgk hbr.size)).trans ek, (hb'.cell (p := ⟨g7, o7 + Q, none⟩) (Nat.lt_of_lt_of_le hg7 hbr.size)).trans ew, ((hbox.below hb').cell 2).trans (by rw [hHr.eq]; rfl), ((hbox.below hb').cell 3).trans (by rw [hHr.eq]; rfl), ((hbox.below hb').cell 6).trans (by rw [hHr.eq]; rfl), load_H (hbox.below hb') h32.len⟩
              have HKEY := Lib.hid hkey
              clear hkey
              have kld := load_H hbox h32.len
              have hones := Lib.hid (rlowI hc h32 18446744073709551615 wr)
              have hQi : (Q : Int) < 64 := by omega
              have hQn : (Q : Int) < (n : Int) := by omega
              have hQ0 : (0 : Int) ≤ (Q : Int) := by omega
              clear hrc e1 e2 e3 e5 e6 e7 ek ew hHr hRl hR32 b0 b4
              go_wp2_with fail
              refine (hones.out).mono ?_
              rintro e w6 ⟨rfl, hb6⟩
              rw [show Int.tmod (18446744073709551615 : Int) 4294967296 = 4294967295 by decide]
              clear hones kld e0 e4
              go_wp2_with fail
              have GK : ∀ p, Below wr.heap.size wr (Batch.grew w6 p) := fun p => hb6.trans ((Batch.grew_below w6 p).mono hb6.size)
              have f0 : ∀ p, (Batch.grew w6 p).cell? ⟨gr, orr + 1, none⟩ = some (.int .u64 (r1 : Int)) := fun p => (HKEY.out _ (GK p)).1
              have f1 : ∀ p, (Batch.grew w6 p).cell? ⟨gr, orr + 2, none⟩ = some (.int .u64 (r2 : Int)) := fun p => (HKEY.out _ (GK p)).2.1
              have f2 : ∀ p, (Batch.grew w6 p).cell? ⟨gr, orr + 3, none⟩ = some (.int .u64 (r3 : Int)) := fun p => (HKEY.out _ (GK p)).2.2.1
              have f3 : ∀ p, (Batch.grew w6 p).cell? ⟨gr, orr + 5, none⟩ = some (.int .u64 (r5 : Int)) := fun p => (HKEY.out _ (GK p)).2.2.2.1
              have f4 : ∀ p, (Batch.grew w6 p).cell? ⟨gr, orr + 6, none⟩ = some (.int .u64 (r6 : Int)) := fun p => (HKEY.out _ (GK p)).2.2.2.2.1
              have f5 : ∀ p, (Batch.grew w6 p).cell? ⟨gr, orr + 7, none⟩ = some (.int .u64 (r7 : Int)) := fun p => (HKEY.out _ (GK p)).2.2.2.2.2.1
              have f6 : ∀ p, (Batch.grew w6 p).cell? ⟨gk, ok + Q, none⟩ = some (.int .u64 (kt : Int)) := fun p => (HKEY.out _ (GK p)).2.2.2.2.2.2.1
              have f7 : ∀ p, (Batch.grew w6 p).cell? ⟨g7, o7 + Q, none⟩ = some (.int .u64 (wt : Int)) := fun p => (HKEY.out _ (GK p)).2.2.2.2.2.2.2.1
              have f8 : ∀ p, (Batch.grew w6 p).cell? ⟨w.heap.size, 2, none⟩ = some (.slice A 3 cA) := fun p => (HKEY.out _ (GK p)).2.2.2.2.2.2.2.2.1
              have f9 : ∀ p, (Batch.grew w6 p).cell? ⟨w.heap.size, 3, none⟩ = some (.slice B 3 cB) := fun p => (HKEY.out _ (GK p)).2.2.2.2.2.2.2.2.2.1
              have f10 : ∀ p, (Batch.grew w6 p).cell? ⟨w.heap.size, 6, none⟩ = some (.slice (some ⟨gk, ok, none⟩) 64 cK) := fun p => (HKEY.out _ (GK p)).2.2.2.2.2.2.2.2.2.2.1
              have fld : ∀ p, (loadH (.pointer (some ⟨w.heap.size, 0, none⟩))).run Tryz.prog (Batch.grew w6 p) = .ok (.agg hc.toArray) (Batch.grew w6 p) := fun p => (HKEY.out _ (GK p)).2.2.2.2.2.2.2.2.2.2.2
              have HM : Hid (∀ p, Calls Tryz.prog 157 #[.agg hc.toArray, .int .u64 (r4 : Int), .slice B 3 cB, .bool false] (Batch.grew w6 p) fun e w'' => e = .returned (.int .u64 (p1 : Int)) ∧ Below (Batch.grew w6 p).heap.size (Batch.grew w6 p) w'') := Lib.hid fun p => mix_any M1.out h32 (GK p)
              refine Batch.wp_region_grew (by kernel_rfl) (by kernel_rfl) ?_
              repeat (go_big_quiet_step (first | (go_at_call 157; exact Batch.calls_grew (HM.out _)) | (go_at_call 158; exact Batch.calls_grew (rlowI hc h32 _ _))))
              refine wpQuiet_nil ?_
              rintro _ ⟨px, rfl⟩
              clear HM GK fld f0 f1 f2 f3 f4 f5 f6 f7 f8 f9 f10
              rw [stepX_int SR.out.b4 SR.out.b6 SR.out.b5]
              have HSR := Lib.hid SR.out.eq
              have hXb : (r7 + p1 + ((r4 &&& r5) ^^^ ((4294967295 ^^^ r4) &&& r6)) + kt + wt) % 4294967296 < 4294967296 := Nat.mod_lt _ (by omega)
              generalize (r7 + p1 + ((r4 &&& r5) ^^^ ((4294967295 ^^^ r4) &&& r6)) + kt + wt) % 4294967296 = X at *
              have hb7 : Below wr.heap.size wr (Batch.grew w6 px) := hb6.trans ((Batch.grew_below w6 px).mono hb6.size)
              generalize Batch.grew w6 px = w7 at *
              clear hb6 w6
              go_wp2_with fail
              have GK : ∀ p, Below wr.heap.size wr (Batch.grew w7 p) := fun p => hb7.trans ((Batch.grew_below w7 p).mono hb7.size)
              have f0 : ∀ p, (Batch.grew w7 p).cell? ⟨gr, orr + 1, none⟩ = some (.int .u64 (r1 : Int)) := fun p => (HKEY.out _ (GK p)).1
              have f1 : ∀ p, (Batch.grew w7 p).cell? ⟨gr, orr + 2, none⟩ = some (.int .u64 (r2 : Int)) := fun p => (HKEY.out _ (GK p)).2.1
              have f2 : ∀ p, (Batch.grew w7 p).cell? ⟨gr, orr + 3, none⟩ = some (.int .u64 (r3 : Int)) := fun p => (HKEY.out _ (GK p)).2.2.1
              have f3 : ∀ p, (Batch.grew w7 p).cell? ⟨gr, orr + 5, none⟩ = some (.int .u64 (r5 : Int)) := fun p => (HKEY.out _ (GK p)).2.2.2.1
              have f4 : ∀ p, (Batch.grew w7 p).cell? ⟨gr, orr + 6, none⟩ = some (.int .u64 (r6 : Int)) := fun p => (HKEY.out _ (GK p)).2.2.2.2.1
              have f5 : ∀ p, (Batch.grew w7 p).cell? ⟨gr, orr + 7, none⟩ = some (.int .u64 (r7 : Int)) := fun p => (HKEY.out _ (GK p)).2.2.2.2.2.1
              have f6 : ∀ p, (Batch.grew w7 p).cell? ⟨gk, ok + Q, none⟩ = some (.int .u64 (kt : Int)) := fun p => (HKEY.out _ (GK p)).2.2.2.2.2.2.1
              have f7 : ∀ p, (Batch.grew w7 p).cell? ⟨g7, o7 + Q, none⟩ = some (.int .u64 (wt : Int)) := fun p => (HKEY.out _ (GK p)).2.2.2.2.2.2.2.1
              have f8 : ∀ p, (Batch.grew w7 p).cell? ⟨w.heap.size, 2, none⟩ = some (.slice A 3 cA) := fun p => (HKEY.out _ (GK p)).2.2.2.2.2.2.2.2.1
              have f9 : ∀ p, (Batch.grew w7 p).cell? ⟨w.heap.size, 3, none⟩ = some (.slice B 3 cB) := fun p => (HKEY.out _ (GK p)).2.2.2.2.2.2.2.2.2.1
              have f10 : ∀ p, (Batch.grew w7 p).cell? ⟨w.heap.size, 6, none⟩ = some (.slice (some ⟨gk, ok, none⟩) 64 cK) := fun p => (HKEY.out _ (GK p)).2.2.2.2.2.2.2.2.2.2.1
              have fld : ∀ p, (loadH (.pointer (some ⟨w.heap.size, 0, none⟩))).run Tryz.prog (Batch.grew w7 p) = .ok (.agg hc.toArray) (Batch.grew w7 p) := fun p => (HKEY.out _ (GK p)).2.2.2.2.2.2.2.2.2.2.2
              have HM : Hid (∀ p, Calls Tryz.prog 157 #[.agg hc.toArray, .int .u64 (r0 : Int), .slice A 3 cA, .bool false] (Batch.grew w7 p) fun e w'' => e = .returned (.int .u64 (p2 : Int)) ∧ Below (Batch.grew w7 p).heap.size (Batch.grew w7 p) w'') := Lib.hid fun p => mix_any M2.out h32 (GK p)
              refine Batch.wp_region_grew (by kernel_rfl) (by kernel_rfl) ?_
              repeat (go_big_quiet_step (first | (go_at_call 157; exact Batch.calls_grew (HM.out _)) | (go_at_call 158; exact Batch.calls_grew (rlowI hc h32 _ _))))
              refine wpQuiet_nil ?_
              rintro _ ⟨py, rfl⟩
              clear HM GK fld f0 f1 f2 f3 f4 f5 f6 f7 f8 f9 f10
              rw [stepY_int SR.out.b0 SR.out.b1 SR.out.b2]
              have hYb : (p2 + ((r0 &&& r1) ^^^ (r0 &&& r2) ^^^ (r1 &&& r2))) % 4294967296 < 4294967296 := Nat.mod_lt _ (by omega)
              generalize (p2 + ((r0 &&& r1) ^^^ (r0 &&& r2) ^^^ (r1 &&& r2))) % 4294967296 = Y at *
              have hb8 : Below wr.heap.size wr (Batch.grew w7 py) := hb7.trans ((Batch.grew_below w7 py).mono hb7.size)
              generalize Batch.grew w7 py = w8 at *
              clear hb7 w7
              go_wp2_with fail
              have b3 := SR.out.b3
              have GK : ∀ p, Below wr.heap.size wr (Batch.grew w8 p) := fun p => hb8.trans ((Batch.grew_below w8 p).mono hb8.size)
              have f0 : ∀ p, (Batch.grew w8 p).cell? ⟨gr, orr + 1, none⟩ = some (.int .u64 (r1 : Int)) := fun p => (HKEY.out _ (GK p)).1
              have f1 : ∀ p, (Batch.grew w8 p).cell? ⟨gr, orr + 2, none⟩ = some (.int .u64 (r2 : Int)) := fun p => (HKEY.out _ (GK p)).2.1
              have f2 : ∀ p, (Batch.grew w8 p).cell? ⟨gr, orr + 3, none⟩ = some (.int .u64 (r3 : Int)) := fun p => (HKEY.out _ (GK p)).2.2.1
              have f3 : ∀ p, (Batch.grew w8 p).cell? ⟨gr, orr + 5, none⟩ = some (.int .u64 (r5 : Int)) := fun p => (HKEY.out _ (GK p)).2.2.2.1
              have f4 : ∀ p, (Batch.grew w8 p).cell? ⟨gr, orr + 6, none⟩ = some (.int .u64 (r6 : Int)) := fun p => (HKEY.out _ (GK p)).2.2.2.2.1
              have f5 : ∀ p, (Batch.grew w8 p).cell? ⟨gr, orr + 7, none⟩ = some (.int .u64 (r7 : Int)) := fun p => (HKEY.out _ (GK p)).2.2.2.2.2.1
              have f6 : ∀ p, (Batch.grew w8 p).cell? ⟨gk, ok + Q, none⟩ = some (.int .u64 (kt : Int)) := fun p => (HKEY.out _ (GK p)).2.2.2.2.2.2.1
              have f7 : ∀ p, (Batch.grew w8 p).cell? ⟨g7, o7 + Q, none⟩ = some (.int .u64 (wt : Int)) := fun p => (HKEY.out _ (GK p)).2.2.2.2.2.2.2.1
              have f8 : ∀ p, (Batch.grew w8 p).cell? ⟨w.heap.size, 2, none⟩ = some (.slice A 3 cA) := fun p => (HKEY.out _ (GK p)).2.2.2.2.2.2.2.2.1
              have f9 : ∀ p, (Batch.grew w8 p).cell? ⟨w.heap.size, 3, none⟩ = some (.slice B 3 cB) := fun p => (HKEY.out _ (GK p)).2.2.2.2.2.2.2.2.2.1
              have f10 : ∀ p, (Batch.grew w8 p).cell? ⟨w.heap.size, 6, none⟩ = some (.slice (some ⟨gk, ok, none⟩) 64 cK) := fun p => (HKEY.out _ (GK p)).2.2.2.2.2.2.2.2.2.2.1
              have fld : ∀ p, (loadH (.pointer (some ⟨w.heap.size, 0, none⟩))).run Tryz.prog (Batch.grew w8 p) = .ok (.agg hc.toArray) (Batch.grew w8 p) := fun p => (HKEY.out _ (GK p)).2.2.2.2.2.2.2.2.2.2.2
              refine Batch.wp_region_grew_tail 26 (by kernel_rfl) (by kernel_rfl) ?_
              simp only [List.take_succ_cons, List.take_zero, List.drop_succ_cons, List.drop_zero]
              repeat (go_big_quiet_step (first | (go_at_call 158; exact Batch.calls_grew (rlowI hc h32 _ _))))
              refine wpQuiet_nil ?_
              rintro _ ⟨pz, rfl⟩
              clear GK fld f0 f1 f2 f3 f4 f5 f6 f7 f8 f9 f10
              rw [sum_int X Y, sum_int r3 X]
              generalize (X + Y) % 4294967296 = Z0 at *
              generalize (r3 + X) % 4294967296 = Z4 at *
              have hb9 : Below wr.heap.size wr (Batch.grew w8 pz) := hb8.trans ((Batch.grew_below w8 pz).mono hb8.size)
              generalize Batch.grew w8 pz = w9 at *
              clear hb8 w8
              have hR9 : Blk (w9.alloc (.cells (wv (Sha.steps Ks Ww s (Q + 1))).toArray 151)) w9.heap.size (wv (Sha.steps Ks Ww s (Q + 1))) 151 := Blk.new _ _ _
              have hR10 := Lib.hid (Ws.of_blk hR9)
              have HL10 := Lib.hid (show (Sha.steps Ks Ww s (Q + 1)).length = 8 from Sha.steps_len HS8.out _ _ _)
              have hb10 := (hbr.trans (hb9.mono hbr.size)).alloc (Nat.le_trans hbr.size hb9.size) (.cells (wv (Sha.steps Ks Ww s (Q + 1))).toArray 151)
              rw [HL10.out] at hR10
              clear hR9
              rw [HSR.out] at hR10 hb10
              have hbA : Below W5.heap.size W5 (w9.alloc (.cells (wv _).toArray 151)) := hb10
              simp only [wv, List.map_cons, List.map_nil] at hR10 hbA
              have HbA := Lib.hid hbA
              clear hb10 hbA
              go_wp2
              go_roundw
              case rel => exact ⟨Q + 1, some ⟨w9.heap.size, 0, none⟩, 8, by omega, by go_num, rfl, by omega, HbA.out, by rw [HSR.out]; exact hR10.out⟩
              case measure => simp [intOf]; omega
            · have hQe : Q = 64 := by omega
              have HBOX2 := Lib.hid (HBOX.out.below hbr)
              have hsr := hsW.below hbrW
              have hrl := hR.len
              have hsl := hsr.len
              have HR32 := Lib.hid (Sha.steps_32 hs32 Ks Ww Q)
              have HS32s := Lib.hid hs32
              have HBK := Lib.hid (show Sha.block Ks s b = Sha.plus (Sha.steps Ks Ww s Q) s 8 by unfold Sha.block; rw [← HWS.out, hQe])
              have hQge : 64 ≤ Q := by omega
              clear hQe hQ64 hQ
              have hbr0 := hbW.trans (hbrW.mono hbW.size)
              obtain ⟨gr, orr, hre, hgr, hrc⟩ := vs_lit hR (by omega)
              subst hre
              obtain ⟨gs, os, hse, hgs, hsc⟩ := vs_lit hsr (by omega)
              subst hse
              have HRC := Lib.hid hrc
              have HSC := Lib.hid hsc
              have HRL := Lib.hid hrl
              have HSL2 := Lib.hid hsl
              clear hsr hR hrc hsc hrl hsl HK HWW hH5 HH HKC H7C HKL HWL HWS
              generalize Sha.steps Ks Ww s Q = R at *
              obtain ⟨wo, hwo⟩ : ∃ wo, wo = wr := ⟨_, rfl⟩
              subst hwo
              go_wp2_with fail
              go_loopw [20, 21] (fun v i wx => ∃ (j : Nat) (A7 : Option Addr) (c7 : Nat), j ≤ 8 ∧ i = .int .i64 (j : Int) ∧ v = .slice A7 j c7 ∧ j ≤ c7 ∧ Below wo.heap.size wo wx ∧ wx.ownsRow wo.heap.size 151 1 (.slice A7 j c7) j (wv (Sha.plus R s j))) (fun _ i _ => 8 - (intOf i).toNat)
              case atStart => exact ⟨0, none, 0, by omega, rfl, rfl, by omega, Below.refl _ _, World.ownsRow_nil _ _ _ _⟩
              case round =>
                obtain ⟨j, A7', c7', hj, rfl, rfl, hjc, hb2, hown⟩ := hrel
                by_cases hj8 : j < 8
                · have hbox := HBOX2.out.below hb2
                  have HS := Lib.hid (show Sha.plus R s (j + 1) = Sha.plus R s j ++ [(R.getD j 0 + s.getD j 0) % 4294967296] from rfl)
                  have er := (hb2.cell (p := ⟨gr, orr + j, none⟩) hgr).trans (HRC.out j _ (wv_at R (by rw [HRL.out]; exact hj8)))
                  have es := (hb2.cell (p := ⟨gs, os + j, none⟩) hgs).trans (HSC.out j _ (wv_at s (by rw [HSL2.out]; exact hj8)))
                  have bx := HR32.out.at_ j
                  have bs := HS32s.out.at_ j
                  generalize R.getD j 0 = x at *
                  generalize s.getD j 0 = y at *
                  have f1 : ∀ p, (Batch.grew wr p).cell? ⟨gr, orr + j, none⟩ = some (.int .u64 (x : Int)) := fun p => (Batch.grew_cell (Nat.lt_of_lt_of_le hgr hb2.size) p).trans er
                  have f2 : ∀ p, (Batch.grew wr p).cell? ⟨gs, os + j, none⟩ = some (.int .u64 (y : Int)) := fun p => (Batch.grew_cell (Nat.lt_of_lt_of_le hgs hb2.size) p).trans es
                  have fld : ∀ p, (loadH (.pointer (some ⟨w.heap.size, 0, none⟩))).run Tryz.prog (Batch.grew wr p) = .ok (.agg hc.toArray) (Batch.grew wr p) := fun p => load_H (hbox.below (Batch.grew_below wr p)) h32.len
                  have hj0 : (0 : Int) ≤ (j : Int) := by omega
                  have hji : (j : Int) < 8 := by omega
                  have hjs : (j : Int) < (cs : Int) := by omega
                  have h63 : j + 1 ≤ maxLen := by unfold maxLen; omega
                  clear er es hbox
                  go_wp2_with fail
                  refine Batch.wp_region_grew_move [0] [1, 2, 3, 4, 5, 6, 7, 8, 9, 10, 11] 12 (by kernel_rfl) (by kernel_rfl) ?_
                  simp only [Batch.pick, List.getD_cons_zero, List.getD_cons_succ, List.drop_succ_cons, List.drop_zero]
                  repeat (go_big_quiet_step (fail))
                  refine wpQuiet_nil ?_
                  repeat (go_big_quiet_step (first | (go_at_call 158; exact Batch.calls_grew (rlowI hc h32 _ _))))
                  refine wpQuiet_nil ?_
                  rintro _ ⟨pz, rfl⟩
                  clear f1 f2 fld
                  rw [sum_int x y]
                  generalize (x + y) % 4294967296 = z at *
                  have hb3 : Below wo.heap.size wo (Batch.grew wr pz) := hb2.trans ((Batch.grew_below wr pz).mono hb2.size)
                  have hown3 := below_own hown (Batch.grew_below wr pz)
                  generalize Batch.grew wr pz = w3 at *
                  have hB3 : wo.heap.size ≤ w3.heap.size := hb3.size
                  clear hown hb2
                  go_wp2_with (at_builtin; go_must (refine wpList_push rfl (.tmp 205) (.tmp 217) 112 rfl wo.heap.size i0 (.int .u64 0) 8 Tryz.underlying112 hi hz0 hz1 hz2 rfl _ _ _ rfl hown3 rfl rfl h63 (by omega) hB3 ?_))
                  intro A' c' w6 hown' g1' g2' hgr
                  have hb6 := below_push hb3 hgr hB3 hown3 (Nat.le_refl _)
                  have hrep : wv (Sha.plus R s j) ++ [.int .u64 (z : Int)] = wv (Sha.plus R s (j + 1)) := by rw [HS.out, wv_append]; rfl
                  rw [hrep] at hown'
                  clear hown3 hgr hrep hb3
                  go_wp2
                  rw [Batch.Qn_normal]
                  go_wp2
                  go_roundw
                  case rel => exact ⟨j + 1, A', c', by omega, by go_num, rfl, g1', hb6, hown'⟩
                  case measure => simp [intOf]; omega
                · have hje : j = 8 := by omega
                  subst hje
                  go_wp2
                  go_ret
                  exact ⟨A7', c7', rfl, hjc, by rw [HKS.out, HBK.out]; exact Ws.of_own hown, hbr0.trans (hb2.mono hbr0.size)⟩
end Go.Proofs.YtmbpnkacggngkaaGreatDoor
