/- THE WALKS of 'numbers' and 'texts', read. -/
import Derived.Test.YtmbpnkacggngkaaGreatDoorLedList
namespace Go.Proofs.YtmbpnkacggngkaaGreatDoor
open Go.RowKit Mem Led

theorem reach_snoc {α : Type} (f : St → α × St) : ∀ (j : Nat) (s : St), reach f (j + 1) s = ((reach f j s).1 ++ [(f (reach f j s).2).1], (f (reach f j s).2).2)
  | 0, s => by simp [reach]
  | j + 1, s => by
    have ih := reach_snoc f j (f s).2
    rw [reach, ih]
    simp [reach]
theorem reach_len {α : Type} {f : St → α × St} (h : ∀ s, (f s).2.1.length ≤ s.1.length) : ∀ (j : Nat) (s : St), (reach f j s).2.1.length ≤ s.1.length
  | 0, _ => Nat.le_refl _
  | j + 1, s => Nat.le_trans (reach_len h j _) (h s)
theorem rtext_len (s : St) : (rtext s).2.1.length ≤ s.1.length := by
  have h := rnum_len 2 s
  unfold rtext
  split
  · simp
  · simp only [List.length_drop]
    omega
/-- What stores make of block g. -/
def upd (g : Nat) : List ((Nat × Nat) × Value) → List Value → List Value
  | [], cs => cs
  | (p, x) :: r, cs => upd g r (if p.1 = g then cs.set p.2 x else cs)
theorem upd_append (g : Nat) : ∀ (a b : List ((Nat × Nat) × Value)) (cs : List Value), upd g (a ++ b) cs = upd g b (upd g a cs)
  | [], _, _ => rfl
  | (_, _) :: a, b, _ => upd_append g a b _
theorem upd_length (g : Nat) : ∀ (a : List ((Nat × Nat) × Value)) (cs : List Value), (upd g a cs).length = cs.length
  | [], _ => rfl
  | (_, _) :: a, _ => by
    rw [upd, upd_length g a]
    split <;> simp
theorem upd_at (g : Nat) (k : Nat) : ∀ (a : List ((Nat × Nat) × Value)) (cs : List Value), (∀ y ∈ a, y.1.2 ≠ k) → (upd g a cs)[k]? = cs[k]?
  | [], _, _ => rfl
  | (p, x) :: a, cs, h => by
    rw [upd, upd_at g k a _ (fun y hy => h y (List.mem_cons_of_mem _ hy))]
    have := h _ List.mem_cons_self
    split
    · rw [List.getElem?_set, if_neg this]
    · rfl
/-- What a call that reads at places leaves. -/
def ReadAt (B gc : Nat) (ps : List (Nat × Nat)) (xs : List Value) (s' : St) (w w' : World) : Prop :=
  Rd w' B gc s' ∧ (∀ g cs t, g ≠ gc → Blk w g cs t → Blk w' g (upd g (ps.zip xs) cs) t) ∧ Chg (gc :: ps.map (·.1)) w w'
theorem zip_snoc (ps : List (Nat × Nat)) (xs : List Value) (x : Value) (j : Nat) (hj : j < ps.length) (hx : xs.length = j) : (ps.take (j + 1)).zip (xs ++ [x]) = (ps.take j).zip xs ++ [(ps[j], x)] := by
  rw [← List.take_append_getElem hj, List.zip_append (by rw [List.length_take]; omega)]
  rfl
theorem ReadAt.step {B gc : Nat} {ps : List (Nat × Nat)} {xs : List Value} {s' s2 : St} {w wr w' : World} {j : Nat} {x : Value} (h : ReadAt B gc (ps.take j) xs s' w wr) (hj : j < ps.length) (hx : xs.length = j)
    (hR : Rd w' B gc s2) (hb : ∀ cs t, Blk wr ps[j].1 cs t → Blk w' ps[j].1 (cs.set ps[j].2 x) t) (hc : Chg [gc, ps[j].1] wr w') : ReadAt B gc (ps.take (j + 1)) (xs ++ [x]) s2 w w' := by
  refine ⟨hR, fun g cs t hg hB => ?_, ?_⟩
  · rw [zip_snoc ps xs x j hj hx, upd_append]
    have h1 := h.2.1 g cs t hg hB
    simp only [upd]
    by_cases hp : ps[j].1 = g
    · rw [if_pos hp]
      have := hb _ t (by rw [hp]; exact h1)
      rw [hp] at this
      exact this
    · rw [if_neg hp]
      exact h1.chg hc (by simp [hg]; exact fun e => hp e.symm)
  · refine (h.2.2.mono (S' := gc :: (ps.take (j + 1)).map (·.1)) ?_).and (hc.mono ?_)
    · intro s hs
      simp only [List.mem_cons, List.mem_map] at hs ⊢
      rcases hs with h | ⟨p, hp, rfl⟩
      · exact .inl h
      · exact .inr ⟨p, List.mem_of_mem_take (i := j) (by rw [List.take_take, Nat.min_eq_left (Nat.le_succ j)]; exact hp), rfl⟩
    · intro s hs
      simp only [List.mem_cons, List.mem_map, List.not_mem_nil, or_false] at hs ⊢
      rcases hs with h | rfl
      · exact .inl h
      · exact .inr ⟨ps[j], by rw [← List.take_append_getElem hj]; exact List.mem_append_right _ List.mem_cons_self, rfl⟩

set_option maxRecDepth 100000 in
set_option maxHeartbeats 2000000 in
theorem numbersr_any (ps : List (Nat × Nat)) (ga n : Nat) {w : World} {B gc : Nat} {s : St} (h : Rd w B gc s) (ha : Blk w ga (ptrs ps) 100) (hn : ps.length = n) (hn3 : n ≤ 3)
    (hp : ∀ j, (hj : j < ps.length) → ps[j].1 ≠ gc ∧ B ≤ ps[j].1 ∧ ps[j].1 ≠ ga ∧ ∃ cs t, Blk w ps[j].1 cs t ∧ ps[j].2 < cs.length)
    (hg : ga ≠ gc) (hl : s.1.length ≤ 140737488355328) :
    Calls Tryz.prog 66 #[.pointer (some ⟨gc, 0, none⟩), .slice (some ⟨ga, 0, none⟩) n n] w fun e w' => e = .returned (.tuple #[]) ∧ ReadAt B gc ps ((reach (rnum 8) n s).1.map (.int .i64)) (reach (rnum 8) n s).2 w w' := by
  go_enter Tryz.func66, Tryz.ntmps66
  go_wp2
  go_loopw [5, 8] (fun _ i wr => ∃ j : Nat, j ≤ n ∧ i = .int .i64 j ∧ ReadAt B gc (ps.take j) ((reach (rnum 8) j s).1.map (.int .i64)) (reach (rnum 8) j s).2 w wr) (fun _ i _ => n - (intOf i).toNat)
  case atStart => exact ⟨0, by omega, rfl, h, fun g cs t _ hb => hb, Chg.refl _ _⟩
  case round =>
    obtain ⟨j, hj, rfl, hA⟩ := hrel
    by_cases hlt : j < n
    · have hjp : j < ps.length := by omega
      obtain ⟨p1, p2, p4, cs, t, p3, p5⟩ := hp j hjp
      have hga : ga ∉ gc :: (ps.take j).map (·.1) := by
        intro hm
        simp only [List.mem_cons, List.mem_map] at hm
        rcases hm with h | ⟨p, hp1, rfl⟩
        · exact hg h
        · obtain ⟨i, hi, e⟩ := List.mem_iff_getElem.1 (List.mem_of_mem_take hp1)
          have := (hp i hi).2.2.1
          rw [e] at this
          exact this rfl
      have a0 : wr.cell? ⟨ga, j, none⟩ = some (.pointer (some ⟨ps[j].1, ps[j].2, none⟩)) := (hA.2.2.cell (p := ⟨ga, j, none⟩) ha.lt hga).trans ((ha.cell j).trans (ptrs_at hjp))
      have hlen := reach_len (f := rnum 8) (rnum_len 8) j s
      have hnum := numr_lit 8 8 rfl (by omega) ps[j].1 ps[j].2 hA.1 (hA.2.1 _ cs t p1 p3) (by rw [upd_length]; exact p5) p1 p2 (by omega)
      have hrc := reach_snoc (rnum 8) j s
      have hlx := reach_length (rnum 8) j s
      have hstep := fun w' (hR : Rd w' B gc (rnum 8 (reach (rnum 8) j s).2).2) => hA.step (w' := w') (x := .int .i64 (rnum 8 (reach (rnum 8) j s).2).1) hjp (by rw [List.length_map]; exact hlx) hR
      have HRC := Lib.hid hrc
      have HST := Lib.hid hstep
      have HA := Lib.hid hA
      have HQ := Lib.hid (hA.2.1 _ cs t p1 p3)
      clear hrc hstep hA hlx p3
      unfold ReadNum at hnum
      generalize reach (rnum 8) j s = q at *
      generalize ps[j].1 = gp at *
      generalize ps[j].2 = kp at *
      go_wp2_with fail
      refine hnum.mono ?_
      rintro e w2 ⟨rfl, hR2, hb2, hc2⟩
      have hfin := HST.out w2 hR2 (fun cs' t' hb' => by
        have e1 := HQ.out
        unfold Blk at e1 hb'
        rw [e1] at hb'
        injection hb' with e2
        injection e2 with e3 e4 e5
        subst e4
        rw [← List.toArray_inj e3]
        exact hb2) hc2
      have hrel2 : ReadAt B gc (ps.take (j + 1)) ((reach (rnum 8) (j + 1) s).1.map (.int .i64)) (reach (rnum 8) (j + 1) s).2 w w2 := by
        rw [HRC.out]
        simpa using hfin
      clear hR2 hb2 hfin HST
      go_wp2
      go_roundw
      case rel => exact ⟨j + 1, by omega, by go_num, hrel2⟩
      case measure => simp [intOf]; omega
    · obtain rfl : j = n := by omega
      rw [List.take_of_length_le (by omega)] at hA
      go_wp2
      go_end0
      exact ⟨rfl, hA⟩
set_option maxRecDepth 100000 in
set_option maxHeartbeats 2000000 in
theorem textsr_any (ps : List (Nat × Nat)) (ga n : Nat) {w : World} {B gc : Nat} {s : St} (h : Rd w B gc s) (ha : Blk w ga (ptrs ps) 103) (hn : ps.length = n) (hn3 : n ≤ 3)
    (hp : ∀ j, (hj : j < ps.length) → ps[j].1 ≠ gc ∧ B ≤ ps[j].1 ∧ ps[j].1 ≠ ga ∧ ∃ cs t, Blk w ps[j].1 cs t ∧ cs[ps[j].2]? = some (.string (str [])))
    (hnd : (ps.map (·.2)).Nodup)
    (hg : ga ≠ gc) (hl : s.1.length ≤ 140737488355328) :
    Calls Tryz.prog 67 #[.pointer (some ⟨gc, 0, none⟩), .slice (some ⟨ga, 0, none⟩) n n] w fun e w' => e = .returned (.tuple #[]) ∧ ReadAt B gc ps ((reach rtext n s).1.map fun x => .string (str x)) (reach rtext n s).2 w w' := by
  go_enter Tryz.func67, Tryz.ntmps67
  go_wp2
  go_loopw [5, 8] (fun _ i wr => ∃ j : Nat, j ≤ n ∧ i = .int .i64 j ∧ ReadAt B gc (ps.take j) ((reach rtext j s).1.map fun x => .string (str x)) (reach rtext j s).2 w wr) (fun _ i _ => n - (intOf i).toNat)
  case atStart => exact ⟨0, by omega, rfl, h, fun g cs t _ hb => hb, Chg.refl _ _⟩
  case round =>
    obtain ⟨j, hj, rfl, hA⟩ := hrel
    by_cases hlt : j < n
    · have hjp : j < ps.length := by omega
      obtain ⟨p1, p2, p4, cs, t, p3, p5⟩ := hp j hjp
      have hga : ga ∉ gc :: (ps.take j).map (·.1) := by
        intro hm
        simp only [List.mem_cons, List.mem_map] at hm
        rcases hm with h | ⟨p, hp1, rfl⟩
        · exact hg h
        · obtain ⟨i, hi, e⟩ := List.mem_iff_getElem.1 (List.mem_of_mem_take hp1)
          have := (hp i hi).2.2.1
          rw [e] at this
          exact this rfl
      have a0 : wr.cell? ⟨ga, j, none⟩ = some (.pointer (some ⟨ps[j].1, ps[j].2, none⟩)) := (hA.2.2.cell (p := ⟨ga, j, none⟩) ha.lt hga).trans ((ha.cell j).trans (ptrs_at hjp))
      have hnk : ∀ y ∈ (ps.take j).zip ((reach rtext j s).1.map fun x => (.string (str x) : Value)), y.1.2 ≠ ps[j].2 := by
        intro y hy e
        obtain ⟨i, hi, he⟩ := List.mem_iff_getElem.1 (List.of_mem_zip hy).1
        have hi2 : i < j := by simp at hi; omega
        have h1 := List.getElem_take ▸ he
        have h2 := List.nodup_iff_pairwise_ne.1 hnd
        have h3 := (List.pairwise_iff_getElem.1 h2) i j (by simp; omega) (by simp; omega) hi2
        simp only [List.getElem_map] at h3
        rw [h1] at h3
        exact h3 e
      have hlen := reach_len (f := rtext) (rtext_len) j s
      have hnum := textr_any ps[j].1 ps[j].2 hA.1 (hA.2.1 _ cs t p1 p3) (by rw [upd_at _ _ _ _ hnk]; exact p5) p1 p2 (by omega)
      have hrc := reach_snoc rtext j s
      have hlx := reach_length rtext j s
      have hstep := fun w' (hR : Rd w' B gc (rtext (reach rtext j s).2).2) => hA.step (w' := w') (x := .string (str (rtext (reach rtext j s).2).1)) hjp (by rw [List.length_map]; exact hlx) hR
      have HRC := Lib.hid hrc
      have HST := Lib.hid hstep
      have HA := Lib.hid hA
      have HQ := Lib.hid (hA.2.1 _ cs t p1 p3)
      clear hrc hstep hA hlx p3
      unfold ReadText at hnum
      generalize reach rtext j s = q at *
      generalize ps[j].1 = gp at *
      generalize ps[j].2 = kp at *
      go_wp2_with fail
      refine hnum.mono ?_
      rintro e w2 ⟨rfl, hR2, hb2, hc2⟩
      have hfin := HST.out w2 hR2 (fun cs' t' hb' => by
        have e1 := HQ.out
        unfold Blk at e1 hb'
        rw [e1] at hb'
        injection hb' with e2
        injection e2 with e3 e4 e5
        subst e4
        rw [← List.toArray_inj e3]
        exact hb2) hc2
      have hrel2 : ReadAt B gc (ps.take (j + 1)) ((reach rtext (j + 1) s).1.map fun x => .string (str x)) (reach rtext (j + 1) s).2 w w2 := by
        rw [HRC.out]
        simpa using hfin
      clear hR2 hb2 hfin HST
      go_wp2
      go_roundw
      case rel => exact ⟨j + 1, by omega, by go_num, hrel2⟩
      case measure => simp [intOf]; omega
    · obtain rfl : j = n := by omega
      rw [List.take_of_length_le (by omega)] at hA
      go_wp2
      go_end0
      exact ⟨rfl, hA⟩
end Go.Proofs.YtmbpnkacggngkaaGreatDoor
