/- THE WALKS of the reference's Mul and Less. -/
import Derived.Test.YtmbpnkacggngkaaGreatDoorShaMem
namespace Go.Proofs.YtmbpnkacggngkaaGreatDoor
open Go.RowKit Mem

set_option maxRecDepth 100000 in
set_option maxHeartbeats 2000000 in
theorem rmul_any (A : Option Addr) (n c : Nat) (xs : List Int) (A' : Option Addr) (n' c' : Nat) (ys : List Int) (w : World) (h : Is w A n xs) (h' : Is w A' n' ys) (hn : n ≤ 1000) (hn' : n' ≤ 1000) :
    Calls Tryz.prog 155 #[.slice A n c, .slice A' n' c'] w fun e w' => e = .returned (.slice (some ⟨w.heap.size, 0, none⟩) (n + n') (n + n')) ∧ Blk w' w.heap.size (iv (Sha.mul xs ys)) 3 ∧ Below w.heap.size w w' := by
  have hl := h.len
  have hl' := h'.len
  have hmk := makeI w (n + n') (by omega)
  have hb0 := Blk.new w (iv (List.replicate (n + n') 0)) 3
  have he0 : List.replicate (n + n') 0 = Sha.mulOut xs ys 0 := by unfold Sha.mulOut; rw [hl, hl']
  rw [he0] at hmk hb0
  rw [Int.natCast_add] at hmk
  have hbw : Below w.heap.size w (w.alloc (.cells (iv (Sha.mulOut xs ys 0)).toArray 3)) := (Below.refl _ _).alloc (Nat.le_refl _) _
  have hlen : ∀ i, (Sha.mulOut xs ys i).length = n + n' := fun i => by rw [Sha.mulOut_len, hl, hl']
  have hilen : ∀ i o j, (Sha.mulIn xs ys i o j).1.length = o.length := fun i o j => by rw [Sha.mulIn_len]
  unfold Sha.mul
  have HL := Lib.hid hl
  have HL' := Lib.hid hl'
  rw [hl]
  clear hl hl' he0
  go_enter Tryz.func155, Tryz.ntmps155
  go_wp2
  go_loopw [6] (fun i wr => ∃ k : Nat, k ≤ n ∧ i = .int .i64 k ∧ Below w.heap.size w wr ∧ Blk wr w.heap.size (iv (Sha.mulOut xs ys k)) 3) (fun i _ => n - (intOf i).toNat)
  case atStart => exact ⟨0, by omega, rfl, hbw, hb0⟩
  case round =>
    obtain ⟨k, hk, rfl, hb, hB⟩ := hrel
    by_cases hlt : k < n
    · have ho := hlen k
      have hs : Sha.mulOut xs ys (k + 1) = ((Sha.mulIn xs ys k (Sha.mulOut xs ys k) n').1.set (k + n') (wrap64 ((Sha.mulIn xs ys k (Sha.mulOut xs ys k) n').1.getD (k + n') 0 + (Sha.mulIn xs ys k (Sha.mulOut xs ys k) n').2))) := by
        conv => lhs; unfold Sha.mulOut
        rw [HL'.out]
      have HS := Lib.hid hs
      clear hs
      generalize Sha.mulOut xs ys k = o at *
      go_wp2
      go_loopw [7, 8, 9] (fun cy j _ wr => ∃ l : Nat, l ≤ n' ∧ j = .int .i64 l ∧ cy = .int .i64 (Sha.mulIn xs ys k o l).2 ∧ Below w.heap.size w wr ∧ Blk wr w.heap.size (iv (Sha.mulIn xs ys k o l).1) 3) (fun _ j _ _ => n' - (intOf j).toNat)
      case atStart => exact ⟨0, by omega, rfl, rfl, hb, hB⟩
      case round =>
        obtain ⟨l, hl, rfl, rfl, hb1, hB1⟩ := hrel
        by_cases hlt' : l < n'
        · obtain ⟨ba, oa, rfl, hba, hca⟩ := vs_lit (h.below hb1) (by omega)
          obtain ⟨bb, ob, rfl, hbb, hcb⟩ := vs_lit (h'.below hb1) (by omega)
          have ca := hca k _ (iv_at xs (by rw [HL.out]; exact hlt))
          have cb := hcb l _ (iv_at ys (by rw [HL'.out]; exact hlt'))
          have hql := hilen k o l
          have HS2 := Lib.hid (show Sha.mulIn xs ys k o (l + 1) = (let q := Sha.mulIn xs ys k o l
            let v := wrap64 (wrap64 (q.1.getD (k + l) 0 + wrap64 (xs.getD k 0 * ys.getD l 0)) + q.2)
            (q.1.set (k + l) (v.tmod 65536), wrap64 (v.tdiv 65536))) from rfl)
          generalize Sha.mulIn xs ys k o l = q at *
          obtain ⟨P, cy⟩ := q
          dsimp only at *
          have cp : wr.cell? ⟨w.heap.size, k + l, none⟩ = some (.int .i64 (P.getD (k + l) 0)) := (hB1.cell _).trans (iv_at P (by omega))
          have cf : wr.frozen? ⟨w.heap.size, k + l, none⟩ = false := hB1.froz _
          clear hca hcb hql
          generalize xs.getD k 0 = x at *
          generalize ys.getD l 0 = y at *
          generalize P.getD (k + l) 0 = p at *
          go_wp2
          go_region
          all_goals
            go_wp2
            go_roundw
            case rel =>
              have hB2 := (hB1.set (k + l) (.int .i64 ((wrap64 (wrap64 (p + wrap64 (x * y)) + cy)).tmod 65536))).drew
              rw [iv_set] at hB2
              exact ⟨l + 1, by omega, by go_num, by rw [HS2.out], (hb1.setCell (Nat.le_refl _) _).drew, by rw [HS2.out]; exact hB2⟩
            case measure => simp [intOf]; omega
        · obtain rfl : l = n' := by omega
          have hql := hilen k o l
          generalize Sha.mulIn xs ys k o l = q at *
          obtain ⟨P, cy⟩ := q
          dsimp only at *
          have cp : wr.cell? ⟨w.heap.size, k + l, none⟩ = some (.int .i64 (P.getD (k + l) 0)) := (hB1.cell _).trans (iv_at P (by omega))
          have cf : wr.frozen? ⟨w.heap.size, k + l, none⟩ = false := hB1.froz _
          clear hql
          generalize P.getD (k + l) 0 = p at *
          go_wp2
          go_roundw
          case rel =>
            have hB2 := hB1.set (k + l) (.int .i64 (wrap64 (p + cy)))
            rw [iv_set] at hB2
            exact ⟨k + 1, by omega, by go_num, hb1.setCell (Nat.le_refl _) _, by rw [HS.out]; exact hB2⟩
          case measure => simp [intOf]; omega
    · obtain rfl : k = n := by omega
      go_wp2
      go_ret
      exact ⟨rfl, hB, hb⟩

theorem lessFrom_out {xs ys : List Int} (j : Nat) : Sha.lessFrom xs ys (j + 1) = if xs.getD j 0 = ys.getD j 0 then Sha.lessFrom xs ys j else decide (xs.getD j 0 < ys.getD j 0) := rfl
theorem getD_out (xs : List Int) (j : Nat) (h : ¬ j < xs.length) : xs.getD j 0 = 0 := by
  rw [List.getD_eq_getElem?_getD, List.getElem?_eq_none (by omega)]
  rfl
set_option maxRecDepth 100000 in
set_option maxHeartbeats 2000000 in
theorem rless_any (A : Option Addr) (n c : Nat) (xs : List Int) (A' : Option Addr) (n' c' : Nat) (ys : List Int) (w : World) (h : Is w A n xs) (h' : Is w A' n' ys) (hn : n ≤ 1000) (hn' : n' ≤ 1000) :
    Calls Tryz.prog 156 #[.slice A n c, .slice A' n' c'] w fun e w' => e = .returned (.bool (Sha.less xs ys)) ∧ w = w' := by
  have HL := Lib.hid h.len
  have HL' := Lib.hid h'.len
  obtain ⟨m, hm⟩ : ∃ m, Hid (max n n' = m) := ⟨_, Lib.hid rfl⟩
  have hr : Sha.less xs ys = Sha.lessFrom xs ys m := by unfold Sha.less; rw [HL.out, HL'.out, hm.out]
  rw [hr]
  obtain ⟨r, hr2⟩ : ∃ r, Sha.lessFrom xs ys m = r := ⟨_, rfl⟩
  rw [hr2]
  have HR2 := Lib.hid hr2
  have hm1 : m ≤ 1000 := by rw [← hm.out]; omega
  clear hr hr2
  by_cases hc : n < n'
  · have HM : Hid (n' = m) := Lib.hid (by rw [← hm.out]; omega)
    go_enter Tryz.func156, Tryz.ntmps156
    go_wp2
    go_loop [6] (fun i => ∃ k : Nat, k ≤ m ∧ i = .int .i64 ((k : Int) - 1) ∧ Hid (Sha.lessFrom xs ys k = r)) (fun i => (intOf i + 1).toNat)
    case atStart => exact ⟨m, by omega, by rw [← HM.out], HR2⟩
    case round =>
      obtain ⟨k, hk, rfl, HK⟩ := hrel
      rcases k with _ | j
      · have hrf : r = false := by rw [← HK.out]; rfl
        subst hrf
        go_wp2
        go_ret
        exact ⟨rfl, rfl⟩
      · have e1 : (((j + 1 : Nat) : Int) - 1) = (j : Int) := by omega
        rw [e1]
        have HS := Lib.hid (lessFrom_out (xs := xs) (ys := ys) j)
        have fa : j < n → ∃ blk off, A = some ⟨blk, off, none⟩ ∧ w.cell? ⟨blk, off + j, none⟩ = some (.int .i64 (xs.getD j 0)) := fun hj => by
          obtain ⟨blk, off, e, _, hx⟩ := vs_lit h (by omega)
          exact ⟨blk, off, e, hx j _ (iv_at xs (by rw [HL.out]; exact hj))⟩
        have fb : j < n' → ∃ blk off, A' = some ⟨blk, off, none⟩ ∧ w.cell? ⟨blk, off + j, none⟩ = some (.int .i64 (ys.getD j 0)) := fun hj => by
          obtain ⟨blk, off, e, _, hx⟩ := vs_lit h' (by omega)
          exact ⟨blk, off, e, hx j _ (iv_at ys (by rw [HL'.out]; exact hj))⟩
        have za : ¬ j < n → xs.getD j 0 = 0 := fun hj => getD_out xs j (by rw [HL.out]; exact hj)
        have zb : ¬ j < n' → ys.getD j 0 = 0 := fun hj => getD_out ys j (by rw [HL'.out]; exact hj)
        generalize xs.getD j 0 = x at *
        generalize ys.getD j 0 = y at *
        by_cases ha : j < n <;> by_cases hb : j < n' <;> by_cases hxy : x = y
        all_goals
          try (exfalso; have := HM.out; omega)
        all_goals
          first | (have hza := za ha; subst hza) | (obtain ⟨ba, oa, rfl, ca⟩ := fa ha)
          first | (have hzb := zb hb; first | subst hzb | skip) | (obtain ⟨bb, ob, rfl, cb⟩ := fb hb)
          clear fa fb za zb
          have H2 := HS.out
          rw [HK.out] at H2
          first | rw [if_pos hxy] at H2 | rw [if_neg hxy] at H2
          have H3 := Lib.hid H2
          clear H2
          go_wp2
          all_goals
            first
            | (go_ret
               exact ⟨by rw [H3.out]; rfl, rfl⟩)
            | (go_round
               case rel => exact ⟨j, by omega, by go_num, Lib.hid H3.out.symm⟩
               case measure => simp [intOf])
  · have HM : Hid (n = m) := Lib.hid (by rw [← hm.out]; omega)
    go_enter Tryz.func156, Tryz.ntmps156
    go_wp2
    go_loop [6] (fun i => ∃ k : Nat, k ≤ m ∧ i = .int .i64 ((k : Int) - 1) ∧ Hid (Sha.lessFrom xs ys k = r)) (fun i => (intOf i + 1).toNat)
    case atStart => exact ⟨m, by omega, by rw [← HM.out], HR2⟩
    case round =>
      obtain ⟨k, hk, rfl, HK⟩ := hrel
      rcases k with _ | j
      · have hrf : r = false := by rw [← HK.out]; rfl
        subst hrf
        go_wp2
        go_ret
        exact ⟨rfl, rfl⟩
      · have e1 : (((j + 1 : Nat) : Int) - 1) = (j : Int) := by omega
        rw [e1]
        have HS := Lib.hid (lessFrom_out (xs := xs) (ys := ys) j)
        have fa : j < n → ∃ blk off, A = some ⟨blk, off, none⟩ ∧ w.cell? ⟨blk, off + j, none⟩ = some (.int .i64 (xs.getD j 0)) := fun hj => by
          obtain ⟨blk, off, e, _, hx⟩ := vs_lit h (by omega)
          exact ⟨blk, off, e, hx j _ (iv_at xs (by rw [HL.out]; exact hj))⟩
        have fb : j < n' → ∃ blk off, A' = some ⟨blk, off, none⟩ ∧ w.cell? ⟨blk, off + j, none⟩ = some (.int .i64 (ys.getD j 0)) := fun hj => by
          obtain ⟨blk, off, e, _, hx⟩ := vs_lit h' (by omega)
          exact ⟨blk, off, e, hx j _ (iv_at ys (by rw [HL'.out]; exact hj))⟩
        have za : ¬ j < n → xs.getD j 0 = 0 := fun hj => getD_out xs j (by rw [HL.out]; exact hj)
        have zb : ¬ j < n' → ys.getD j 0 = 0 := fun hj => getD_out ys j (by rw [HL'.out]; exact hj)
        generalize xs.getD j 0 = x at *
        generalize ys.getD j 0 = y at *
        by_cases ha : j < n <;> by_cases hb : j < n' <;> by_cases hxy : x = y
        all_goals
          try (exfalso; have := HM.out; omega)
        all_goals
          first | (have hza := za ha; subst hza) | (obtain ⟨ba, oa, rfl, ca⟩ := fa ha)
          first | (have hzb := zb hb; first | subst hzb | skip) | (obtain ⟨bb, ob, rfl, cb⟩ := fb hb)
          clear fa fb za zb
          have H2 := HS.out
          rw [HK.out] at H2
          first | rw [if_pos hxy] at H2 | rw [if_neg hxy] at H2
          have H3 := Lib.hid H2
          clear H2
          go_wp2
          all_goals
            first
            | (go_ret
               exact ⟨by rw [H3.out]; rfl, rfl⟩)
            | (go_round
               case rel => exact ⟨j, by omega, by go_num, Lib.hid H3.out.symm⟩
               case measure => simp [intOf])
end Go.Proofs.YtmbpnkacggngkaaGreatDoor
