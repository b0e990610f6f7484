/- THE WALK of ids.Path: a range over the function segments. -/
import Derived.Test.YtmbpnkacggngkaaGreatDoorIdsSplit
import Derived.Test.YtmbpnkacggngkaaGreatDoorFence
import Derived.Laws.NewBlocks
namespace Go.Proofs.YtmbpnkacggngkaaGreatDoor
open Go.RowKit Go.Shelf Mem
attribute [local go_sem] Oper.semAt_some

/-- The k-th segment. -/
def SegVal (T : List (List UInt8)) (v : Value) (_ : World) (k : Nat) : Prop := ∃ h : k < T.length, v = .string (str T[k])

set_option maxRecDepth 100000 in
set_option maxHeartbeats 4000000 in
theorem segs_hands (s : List UInt8) (Sb : List Nat) (lo : Nat) (W : World) (rb : Nat) (hbox : W.cell? ⟨rb, 0, none⟩ = some (.string (str s))) (hs : s.length ≤ 4000000000) (hSb : ∀ x, x ∈ Sb → x < W.heap.size) :
    Hands Tryz.prog 189 #[.pointer (some ⟨rb, 0, none⟩)] (Ids.pieces s).tail.length Sb (SegVal (Ids.pieces s).tail) lo W := by
  intro J Jx hJ hY h0
  have hsp := split_any s W hs
  have hts := Ts.new W (Ids.pieces s) 9
  have hba : Below W.heap.size W (W.alloc (.cells (tv (Ids.pieces s)).toArray 9)) := (Below.refl _ _).alloc (Nat.le_refl _) _
  have hpl : (Ids.pieces s).length ≤ 4000000001 := by
    have h1 := Lib.countB_le ⟨#[47]⟩ (by decide) (str s).size (str s) (Nat.le_refl _)
    have h2 := Lib.splitB_all ⟨#[47]⟩ (by decide) 0 _ (str s) rfl
    rw [← tv_length, ← splitB_pieces, List.length_map, h2]
    rw [str_size] at h1
    omega
  have hne := Ids.pieces_ne s
  obtain ⟨t0, T, hT⟩ : ∃ t0 T, Ids.pieces s = t0 :: T := by
    cases h : Ids.pieces s with
    | nil => exact absurd h hne
    | cons a b => exact ⟨a, b, rfl⟩
  rw [hT] at hsp hts hba hpl hY ⊢
  obtain ⟨W1, hW1⟩ : ∃ W1, W.alloc (.cells (tv (t0 :: T)).toArray 9) = W1 := ⟨_, rfl⟩
  rw [hW1] at hts hsp hba
  simp only [List.tail_cons] at hY ⊢
  simp only [List.length_cons] at hsp hts hpl
  obtain ⟨n, hn⟩ : ∃ n, T.length = n := ⟨_, rfl⟩
  rw [hn] at hsp hts hpl
  have HN := Lib.hid hn
  have HY := Lib.hid hY
  have HJ := Lib.hid hJ
  have hJ1 : J 0 W1 := hJ 0 W W1 h0 hba
  have HSB := Lib.hid hSb
  have hWs : W.heap.size < W1.heap.size := by rw [← hW1]; simp
  clear hY hJ hT hne hSb hn h0 hW1
  rw [HN.out]
  refine callsIn_of_wp Tryz.func189 rfl trivial ?_ rfl
  simp only [Tryz.ntmps189, List.size_toArray, List.length_cons, List.length_nil, Nat.reduceAdd, Nat.reduceSub, Array.replicate_succ, Array.replicate_zero, List.push_toArray, List.append_toArray, List.nil_append, List.cons_append]
  gi_wp2_with fail
  refine ⟨trivial, (callsIn_wide.2 hsp).mono ?_⟩
  rintro e w1 ⟨rfl, rfl⟩
  clear hsp
  by_cases h0 : n = 0
  · subst h0
    gi_wp2_with fail
    gi_loopw [4, 9] (fun _ i wr => i = .int .i64 0 ∧ J 0 wr) (fun _ _ _ => 0)
    case atStart => exact ⟨rfl, hJ1⟩
    case round =>
      obtain ⟨rfl, hj⟩ := hrel
      clear hJ1
      gi_wp2
      go_end0
      exact ⟨⟨_, rfl⟩, .inl hj⟩
  · have hn1 : ¬ (n : Int) + 1 = 1 := by omega
    gi_wp2_with fail
    gi_loopw [4, 9] (fun _ i wr => ∃ k : Nat, k ≤ n ∧ i = .int .i64 k ∧ J k wr ∧ Chg Sb w1 wr) (fun _ i _ => n - (intOf i).toNat)
    case atStart => exact ⟨0, by omega, rfl, hJ1, Chg.refl _ _⟩
    case round =>
      obtain ⟨k, hk, rfl, hj, hc⟩ := hrel
      clear hJ1
      by_cases hlt : k < n
      · have hkT : k < T.length := by rw [HN.out]; exact hlt
        have htc : Ts wr (some ⟨W.heap.size, 0, none⟩) (n + 1) (t0 :: T) := hts.chg (by intro a ha _ hm; injection ha with ha; subst ha; have := HSB.out _ hm; simp at this) hc
        obtain ⟨blk, off, e0, hcell⟩ := htc.lit (i := k + 1) (by simp; omega)
        simp only [Option.some.injEq, Addr.mk.injEq, and_true] at e0
        obtain ⟨rfl, rfl⟩ := e0
        simp only [List.getElem_cons_succ, Nat.zero_add] at hcell
        have hcell2 : wr.cell? ⟨W.heap.size, 1 + k, none⟩ = some (.string (str T[k])) := by rw [Nat.add_comm]; exact hcell
        obtain ⟨fn, tmps, assign, body, hy, hR⟩ := HY.out k _ wr hkT hj ⟨hkT, rfl⟩
        clear hcell htc
        gi_wp2_with fail
        refine hR.mono ?_
        rintro e W3 (⟨rfl, hJ3, hk3⟩ | ⟨rfl, hJx3⟩)
        · clear hR hy
          gi_wp2_with fail
          go_roundw
          case rel => exact ⟨k + 1, by omega, by go_num, hJ3, hc.and hk3⟩
          case measure => simp [intOf]; omega
        · clear hR hy
          gi_wp2_with fail
          refine bodyPost_ret (results_none rfl _ _ _) rfl ?_
          exact ⟨⟨_, rfl⟩, .inr hJx3⟩
      · obtain rfl : k = n := by omega
        gi_wp2
        go_end0
        exact ⟨⟨_, rfl⟩, .inl hj⟩

theorem segments_any (l : List UInt8) (w : World) : Calls Tryz.prog 165 #[.string (str l)] w fun e w' => e = .returned (.func (.func 189) #[] #[.pointer (some ⟨w.heap.size, 0, none⟩)]) ∧ w.alloc (.cells #[.string (str l)] 9) = w' := by
  go_enter Tryz.func165, Tryz.ntmps165
  go_wp2
  go_ret
  exact ⟨rfl, rfl⟩
theorem named_tells : Tells 167 Ids.named := named_any
/-- Between two rounds. -/
structure SegI (w0 : World) (R : Nat) (T : List (List UInt8)) (k : Nat) (W : World) : Prop where
  cell : W.cell? ⟨R, 0, none⟩ = some (.bool false)
  froz : W.frozen? ⟨R, 0, none⟩ = false
  good : (T.take k).all Ids.segOk = true
  chg : Chg [R] w0 W
theorem SegI.next {w0 : World} {R k D : Nat} {T : List (List UInt8)} {W W' : World} (h : SegI w0 R T k W) (hc : Chg [D, D + 1] W W') (hD : R < D ∧ w0.heap.size ≤ D) : SegI w0 R T k W' :=
  ⟨(hc.cell (World.block_lt_of_cell? W _ h.cell) (by simp; omega)).trans h.cell, (hc.frozen (p := ⟨R, 0, none⟩) (World.block_lt_of_cell? W _ h.cell) (by simp; omega)).trans h.froz, h.good, h.chg.trans hc (by intro s hs; simp at hs; omega)⟩
/-- A round has left. -/
def SegX (w0 : World) (R : Nat) (b : Bool) (c : Code) (W : World) : Prop := c = .ret ∧ W.cell? ⟨R, 0, none⟩ = some (.bool false) ∧ Hid (b = false) ∧ Chg [R] w0 W
theorem chg_one (w : World) (u k : Nat) (v : Value) : Chg [u] w (w.setCell ⟨u, k, none⟩ v) := (Chg.refl [u] w).setCell (p := ⟨u, k, none⟩) (.inl (by simp)) v
theorem pieces_len : ∀ (l : List UInt8) (x : List UInt8), x ∈ Ids.pieces l → x.length ≤ l.length
  | [], x, h => by simp [Ids.pieces] at h; subst h; simp
  | c :: t, x, h => by
    have ih := pieces_len t
    unfold Ids.pieces at h
    split at h
    · rcases List.mem_cons.1 h with h | h
      · subst h; simp
      · have := ih x h; simp; omega
    · split at h
      · simp at h; subst h; simp
      · rename_i w ws e
        rw [e] at ih
        rcases List.mem_cons.1 h with h | h
        · subst h
          have := ih w (by simp)
          simp
          omega
        · have := ih x (by simp [h])
          simp
          omega
theorem all_takeL {p : List UInt8 → Bool} {l : List (List UInt8)} {k : Nat} (h : (l.take k).all p = true) (hk : k < l.length) : (l.take (k + 1)).all p = p l[k] := by
  rw [List.take_succ_eq_append_getElem hk, List.all_append, h]
  simp
set_option maxRecDepth 100000 in
set_option maxHeartbeats 4000000 in
theorem path_any (l : List UInt8) (w : World) (hl : l.length ≤ 9223372036854775807) : Calls Tryz.prog 131 #[.string (str l)] w fun e w' => e = .returned (.bool (Ids.path l)) ∧ Below w.heap.size w w' := by
  have hsz := str_size l
  have hp47 := fun w1 => head_any [47] l w1
  obtain ⟨r, hr0⟩ : ∃ r, Ids.path l = r := ⟨_, rfl⟩
  have HR := Lib.hid hr0
  rw [hr0]
  clear hr0
  obtain ⟨N, hN⟩ : ∃ N, l.length = N := ⟨_, rfl⟩
  rw [hN] at hsz hl
  have HN := Lib.hid hN
  clear hN
  by_cases h40 : 40 < N
  · have hx : Hid (Ids.path l = false) := Lib.hid (by
      cases l with
      | nil => rfl
      | cons c t =>
        have := HN.out
        simp only [List.length_cons] at this
        rw [path_cons, decide_eq_false (by omega)]
        rfl)
    go_enter Tryz.func131, Tryz.ntmps131
    go_wp2
    refine bodyPost_ret (v := .bool false) (by simp [results, Tryz.f131, go_sem]) rfl ?_
    exact ⟨by rw [← HR.out, hx.out], (Below.refl _ _).alloc (Nat.le_refl _) _⟩
  · cases hpre : ([47] : List UInt8).isPrefixOf l
    · have hx : Hid (Ids.path l = false) := Lib.hid (by
        cases l with
        | nil => rfl
        | cons c t =>
          rw [path_cons, show (c == 47) = false by
            cases h : (c == 47)
            · rfl
            · simp at h
              subst h
              simp [List.isPrefixOf] at hpre]
          simp)
      rw [hpre] at hp47
      go_enter Tryz.func131, Tryz.ntmps131
      go_wp2_with fail
      refine (hp47 _).mono ?_
      rintro e w1 ⟨rfl, rfl⟩
      go_wp2
      refine bodyPost_ret (v := .bool false) (by simp [results, Tryz.f131, go_sem]) rfl ?_
      exact ⟨by rw [← HR.out, hx.out], ((Below.refl _ _).alloc (Nat.le_refl _) _)⟩
    · obtain ⟨t, ht⟩ : ∃ t, l = 47 :: t := by
        cases l with
        | nil => simp [List.isPrefixOf] at hpre
        | cons c t =>
          simp [List.isPrefixOf] at hpre
          exact ⟨t, by rw [← hpre]⟩
      have hpath : Hid (Ids.path l = (Ids.pieces t).all Ids.segOk) := Lib.hid (by
        have := HN.out
        rw [ht] at this ⊢
        simp only [List.length_cons] at this
        rw [path_cons, decide_eq_true (by omega)]
        simp [Ids.segsOk])
      have htail : Hid ((Ids.pieces l).tail = Ids.pieces t) := Lib.hid (by rw [ht]; simp [Ids.pieces])
      have hlen4 : l.length ≤ 4000000000 := by rw [HN.out]; omega
      rw [hpre] at hp47
      have HTL : Hid (∀ x ∈ Ids.pieces t, x.length ≤ 4000000000) := Lib.hid (fun x hx => by
        have h1 := pieces_len t x hx
        have h2 := HN.out
        rw [ht] at h2
        simp only [List.length_cons] at h2
        omega)
      obtain ⟨T, hT⟩ : ∃ T, Ids.pieces t = T := ⟨_, rfl⟩
      rw [hT] at HTL
      have HPT : Hid (Ids.path l = T.all Ids.segOk) := Lib.hid (by rw [hpath.out, hT])
      have htl : (Ids.pieces l).tail = T := by rw [htail.out, hT]
      have hseg := fun Sb lo W rb h1 h2 => segs_hands l Sb lo W rb h1 hlen4 h2
      rw [htl] at hseg
      have HSG := Lib.hid hseg
      obtain ⟨w5, hw5⟩ : ∃ w5, (w.alloc (.cells #[.bool false] 4)).alloc (.cells #[.string (str l)] 9) = w5 := ⟨_, rfl⟩
      have k5 : w5.cell? ⟨w.heap.size, 0, none⟩ = some (.bool false) := by
        rw [← hw5, World.cell?_alloc_lt _ _ _ (by simp)]
        exact World.cell?_alloc_at _ _ _ 0 rfl
      have f5 : w5.frozen? ⟨w.heap.size, 0, none⟩ = false := by
        rw [← hw5, World.frozen?_alloc_past _ _ _ (by simp)]
        exact World.frozen?_alloc_at _ _ _ 0 rfl
      have b5 : w5.cell? ⟨w.heap.size + 1, 0, none⟩ = some (.string (str l)) := by
        rw [← hw5]
        exact World.cell?_alloc_at _ _ _ 0 (by simp)
      have hb5 : Below w.heap.size w w5 := by rw [← hw5]; exact ((Below.refl _ _).alloc (Nat.le_refl _) _).alloc (by simp) _
      have z5 : w.heap.size + 2 ≤ w5.heap.size := by rw [← hw5]; simp
      have hd40 : decide (40 < (N : Int)) = false := decide_eq_false (by omega)
      clear hT htl hseg hpath htail hpre ht
      refine (callsIn_wide (n := 7)).1 (callsIn_of_wp_marks Tryz.func131 rfl trivial (wpIn_wide.2 ?_) rfl)
      simp only [Tryz.ntmps131, List.size_toArray, List.length_cons, List.length_nil, Nat.reduceAdd, Nat.reduceSub, Array.replicate_succ, Array.replicate_zero, List.push_toArray, List.append_toArray, List.nil_append, List.cons_append]
      go_wp2_with fail
      refine (hp47 _).mono ?_
      rintro e w1 ⟨rfl, rfl⟩
      go_wp2_with fail
      refine (segments_any l _).mono ?_
      rintro e w1 ⟨rfl, rfl⟩
      go_wp2_with fail
      try rw [hw5]
      have hTl : ∀ x ∈ T, x.length ≤ 4000000000 := HTL.out
      refine range_law (gf := 189) (lb := #[.pointer (some ⟨w.heap.size + 1, 0, none⟩)]) rfl (enters_of Tryz.func189 (by kernel_rfl) rfl) (N := T.length) (Sb := [w.heap.size]) (val := SegVal T) ?sb ?hands (SegI w5 w.heap.size T) (SegX w5 w.heap.size (Ids.path l)) ?hI ?hIx ?h0 ?hval (fun v => { tmps := #[.string (str l), undef, .pointer (some ⟨w.heap.size, 0, none⟩), v, .string (str l), .int .i64 (N : Int), .bool false, .bool false, .string (str l), .bool true, .bool false, .bool false, .string (str l), .func (.func 189) #[] #[.pointer (some ⟨w.heap.size + 1, 0, none⟩)], v, undef, undef, undef, undef, undef, undef, undef, undef, undef, undef, undef], defers := [] }) ?assign ?body ?done ?stop
      case sb => intro s hs; simp at hs; omega
      case hands =>
        intro W hc hz
        refine HSG.out _ _ W (w.heap.size + 1) ((hc.cell (by simp; omega) (by simp)).trans b5) (by intro s hs; simp at hs; omega)
      case hI =>
        intro k W W' hi hc
        exact hi.next hc (by omega)
      case hIx =>
        rintro c W W' ⟨rfl, h1, h2, h3⟩ hc
        exact ⟨rfl, (hc.cell (World.block_lt_of_cell? W _ h1) (by simp; omega)).trans h1, h2, h3.trans hc (by intro s hs; simp at hs; omega)⟩
      case h0 => exact ⟨k5, f5, by simp, Chg.refl _ _⟩
      case hval => exact fun v W W' k h _ => h
      case assign =>
        intro lo v W K hK
        gi_wp2
        exact hK
      case body =>
        rintro lo k v W hk hi ⟨_, rfl⟩
        have hal := fun w1 => all_any named_tells (enters_of Tryz.func167 (by kernel_rfl) rfl) T[k] w1 (by have := hTl _ (List.getElem_mem hk); omega)
        have HGO := Lib.hid hi.good
        have hso := segOk_eq T[k]
        have hnx : Hid (Ids.segOk T[k] = true → (T.take (k + 1)).all Ids.segOk = true) := Lib.hid (fun h => (all_takeL hi.good hk).trans h)
        have hbd : Hid (Ids.segOk T[k] = false → Ids.path l = false) := Lib.hid (fun h => by
          rw [HPT.out, List.all_eq_false]
          exact ⟨T[k], List.getElem_mem hk, by rw [h]; simp⟩)
        generalize T[k] = x at *
        have HSO := Lib.hid hso
        have hcell := hi.cell
        have hfroz := hi.froz
        have HI := Lib.hid hi
        clear hso hi
        cases ha : Ids.allOf Ids.named x
        · rw [ha] at hal
          have hp : Hid (Ids.path l = false) := Lib.hid (hbd.out (by rw [HSO.out, ha]; simp))
          clear hbd hnx ha
          gi_wp2_with fail
          refine ⟨trivial, (CallsIn.inRound lo (callsIn_wide.2 (hal _))).mono ?_⟩
          rintro e w' ⟨rfl, rfl⟩
          clear hal
          gi_wp2_with fail
          exact ⟨(Chg.refl _ _).setCell (.inl (by simp)) _, rfl, World.cell?_setCell_same _ _ _ hcell, hp, HI.out.chg.setCell (p := ⟨w.heap.size, 0, none⟩) (.inl (by simp)) _⟩
        · rw [ha] at hal
          cases h1 : (x == [46])
          · cases h2 : (x == [46, 46])
            · have hg := Lib.hid (hnx.out (by rw [HSO.out, ha, h1, h2]; rfl))
              clear hbd hnx ha
              gi_wp2_with fail
              refine ⟨trivial, (CallsIn.inRound lo (callsIn_wide.2 (hal _))).mono ?_⟩
              rintro e w' ⟨rfl, rfl⟩
              clear hal
              gi_wp2_with fail
              exact ⟨Chg.refl _ _, hcell, hfroz, hg.out, HI.out.chg⟩
            · have hp : Hid (Ids.path l = false) := Lib.hid (hbd.out (by rw [HSO.out, ha, h1, h2]; simp))
              clear hbd hnx ha
              gi_wp2_with fail
              refine ⟨trivial, (CallsIn.inRound lo (callsIn_wide.2 (hal _))).mono ?_⟩
              rintro e w' ⟨rfl, rfl⟩
              clear hal
              gi_wp2_with fail
              exact ⟨(Chg.refl _ _).setCell (.inl (by simp)) _, rfl, World.cell?_setCell_same _ _ _ hcell, hp, HI.out.chg.setCell (p := ⟨w.heap.size, 0, none⟩) (.inl (by simp)) _⟩
          · have hp : Hid (Ids.path l = false) := Lib.hid (hbd.out (by rw [HSO.out, ha, h1]; simp))
            clear hbd hnx ha
            gi_wp2_with fail
            refine ⟨trivial, (CallsIn.inRound lo (callsIn_wide.2 (hal _))).mono ?_⟩
            rintro e w' ⟨rfl, rfl⟩
            clear hal
            gi_wp2_with fail
            exact ⟨(Chg.refl _ _).setCell (.inl (by simp)) _, rfl, World.cell?_setCell_same _ _ _ hcell, hp, HI.out.chg.setCell (p := ⟨w.heap.size, 0, none⟩) (.inl (by simp)) _⟩
      case done =>
        rintro W hi hK
        have hp : Hid (Ids.path l = true) := Lib.hid (by
          have := hi.good
          rw [List.take_length] at this
          rw [HPT.out, this])
        have hcell := hi.cell
        have hfroz := hi.froz
        have HI := Lib.hid hi
        clear hi
        go_wp2_with fail
        have hc2 := HI.out.chg.setCell (p := ⟨w.heap.size, 0, none⟩) (.inl (by simp)) (.bool true)
        have cx := World.cell?_setCell_same W ⟨w.heap.size, 0, none⟩ (.bool true) hcell
        obtain ⟨W2, hW2⟩ : ∃ W2, W.setCell ⟨w.heap.size, 0, none⟩ (.bool true) = W2 := ⟨_, rfl⟩
        have hK2 : W2.heap[w5.heap.size]? = some (.deferred (some [])) := by
          rw [← hW2]
          exact (chg_one W w.heap.size 0 (.bool true)).block _ (Array.getElem?_eq_some_iff.1 hK).1 (by simp; omega) |>.trans hK
        rw [hW2] at hc2 cx ⊢
        refine ⟨by simp, .inl ⟨_, _, rfl, run_takeDeferred hK2, ?_⟩⟩
        have hcp := chg_putObj W2 w5.heap.size (.deferred none)
        have cx2 := (hcp.cell (p := ⟨w.heap.size, 0, none⟩) (World.block_lt_of_cell? _ _ cx) (by simp; omega)).trans cx
        refine ⟨.bool true, by simp [results, Tryz.f131, go_sem, cx2], by rw [← HR.out, hp.out], ?_⟩
        exact hb5.trans ((hc2.trans hcp (by intro s hs; simp at hs; omega)).below' hb5.size (by intro s hs; simp at hs; omega))
      case stop =>
        rintro c W ⟨rfl, hcx, hp, hc⟩ hK
        go_wp2_with fail
        refine ⟨by simp, .inl ⟨_, _, rfl, run_takeDeferred hK, ?_⟩⟩
        have hcp := chg_putObj W w5.heap.size (.deferred none)
        have cx2 := (hcp.cell (p := ⟨w.heap.size, 0, none⟩) (World.block_lt_of_cell? _ _ hcx) (by simp; omega)).trans hcx
        refine ⟨.bool false, by simp [results, Tryz.f131, go_sem, cx2], by rw [← HR.out, hp.out], ?_⟩
        exact hb5.trans ((hc.trans hcp (by intro s hs; simp at hs; omega)).below' hb5.size (by intro s hs; simp at hs; omega))
end Go.Proofs.YtmbpnkacggngkaaGreatDoor
