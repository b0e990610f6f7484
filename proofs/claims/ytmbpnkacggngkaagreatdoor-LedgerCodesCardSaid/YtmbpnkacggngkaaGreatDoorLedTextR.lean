/- THE WALK of a text that is read. -/
import Derived.Test.YtmbpnkacggngkaaGreatDoorLedText
import Derived.BigRegion
import Derived.BigQuiet
namespace Go.Proofs.YtmbpnkacggngkaaGreatDoor
open Go.RowKit Mem Led

/-- What a call that reads a text leaves. -/
def ReadText (B gc gp kp : Nat) (cs : List Value) (t : TypeId) (s : St) (w w' : World) : Prop :=
  Rd w' B gc (rtext s).2 ∧ Blk w' gp (cs.set kp (.string (str (rtext s).1))) t ∧ Chg [gc, gp] w w'
theorem rnum_len (k : Nat) (s : St) : (rnum k s).2.1.length ≤ s.1.length := by
  unfold rnum
  simp only []
  split <;> simp

set_option maxRecDepth 100000 in
set_option maxHeartbeats 4000000 in
theorem textr_any (gp kp : Nat) {w : World} {B gc : Nat} {s : St} {cs : List Value} {t : TypeId} (h : Rd w B gc s) (hb : Blk w gp cs t) (hkp : cs[kp]? = some (.string (str [])))
    (hg : gp ≠ gc) (hB : B ≤ gp) (hl : s.1.length ≤ 140737488355328) :
    Calls Tryz.prog 69 #[.pointer (some ⟨gc, 0, none⟩), .pointer (some ⟨gp, kp, none⟩)] w fun e w' => e = .returned (.tuple #[]) ∧ ReadText B gc gp kp cs t s w w' := by
  have hgc := h.glt
  have hgp := hb.lt
  have hBc := h.lt
  have hkl : kp < cs.length := (List.getElem?_eq_some_iff.1 hkp).1
  have hp : w.cell? ⟨gp, kp, none⟩ = some (.string (str [])) := (hb.cell kp).trans hkp
  have hw1 : Rd (w.alloc (.cells #[.int .i64 0] 3)) B gc s := h.chg (S := []) ((Chg.refl _ _).alloc _) (by simp) (by simp)
  have hnum := numr_lit 2 2 rfl (by omega) w.heap.size 0 hw1 (Blk.new w [.int .i64 0] 3) (by simp) (by omega) (by omega) hl
  have hr1 := rnum_small (k := 2) s (by omega)
  have hr2 := rnum_len 2 s
  have hdef : rtext s = if (rnum 2 s).2.1.length < (rnum 2 s).1.toNat then ([], ([], true)) else ((rnum 2 s).2.1.take (rnum 2 s).1.toNat, ((rnum 2 s).2.1.drop (rnum 2 s).1.toNat, (rnum 2 s).2.2)) := rfl
  unfold ReadText
  unfold ReadNum at hnum
  generalize rnum 2 s = q at *
  obtain ⟨n, l, sh⟩ := q
  simp only [] at *
  obtain ⟨m, rfl⟩ : ∃ m : Nat, n = m := ⟨n.toNat, by omega⟩
  rw [Int.toNat_natCast] at hdef
  have HD := Lib.hid hdef
  clear hdef
  have hm : m < 65536 := by omega
  go_enter Tryz.func69, Tryz.ntmps69
  go_wp2_with fail
  refine hnum.mono ?_
  rintro e w2 ⟨rfl, hR, hbn, hc⟩
  have hz2 := hc.size
  have hcg : Chg [gc, gp] w w2 := (Chg.of_below ((Below.refl _ _).alloc (Nat.le_refl _) (.cells #[.int .i64 0] 3))).trans (hc.mono (S' := [gc, w.heap.size]) (by simp)) (by
    intro s hs
    simp at hs
    rcases hs with rfl | rfl
    · exact .inl (by simp)
    · exact .inr (Nat.le_refl _))
  have hb2 : Blk w2 gp cs t := (hb.alloc (.cells #[.int .i64 0] 3)).chg hc (by simp [hg]; omega)
  have dn : w2.cell? ⟨w.heap.size, 0, none⟩ = some (.int .i64 (m : Int)) := hbn.cell 0
  obtain ⟨A, n, c, h1, h2, h3⟩ := hR.ex
  have d0 : w2.cell? ⟨gc, 0, none⟩ = some (.slice A n c) := h1.cell 0
  have d1 : w2.cell? ⟨gc, 1, none⟩ = some (.bool true) := h1.cell 1
  have d2 : w2.cell? ⟨gc, 2, none⟩ = some (.bool sh) := h1.cell 2
  have df : ∀ k, w2.frozen? ⟨gc, k, none⟩ = false := h1.froz
  have hp2 : w2.cell? ⟨gp, kp, none⟩ = some (.string (str [])) := (hb2.cell kp).trans hkp
  have pf : w2.frozen? ⟨gp, kp, none⟩ = false := hb2.froz kp
  have hln : l.length = n := h3.len
  by_cases hlt : n < m
  · have hres : ReadText B gc gp kp cs t s w ((w2.drew.setCell ⟨gc, 2, none⟩ (.bool true)).setCell ⟨gc, 0, none⟩ (.slice none 0 0)) := by
      unfold ReadText
      rw [HD.out, if_pos (by omega)]
      have hcs : cs.set kp (.string (str [])) = cs := by
        apply List.ext_getElem?
        intro j
        rw [List.getElem?_set]
        split
        · rename_i hj
          subst hj
          exact hkp.symm
        · rfl
      refine ⟨⟨⟨none, 0, 0, (h1.drew.set 2 _).set 0 _, Nat.le_refl _, Bs.empty _ _ _⟩, hBc⟩, ?_, (hcg.drew.setCell (.inl (by simp)) _).setCell (.inl (by simp)) _⟩
      rw [hcs]
      exact (hb2.drew.set_ne hg _).set_ne hg _
    have HR := Lib.hid hres
    clear hres h1 h3 hR hbn hb2 hnum
    go_wp2_with fail
    go_region
    all_goals
      go_wp2
      refine bodyPost_ret (results_none rfl _ _ _) rfl ?_
      exact ⟨rfl, HR.out⟩
  · have hmn : m ≤ n := by omega
    have hmc : m ≤ c := by omega
    have hcv := run_string (P := Tryz.prog) ((Bs.take h3 hmn).drew.drew) 62 5 9 c Tryz.underlying62 Tryz.underlying5 Tryz.underlying9
    have hdr := Bs.drop h3 hmn h2
    have hres : ∀ A' k' c', A' = (if c = m then A else A.map (·.add m)) → k' = n - m → c' = c - m → ReadText B gc gp kp cs t s w ((w2.drew.drew.setCell ⟨gp, kp, none⟩ (.string (str (l.take m)))).setCell ⟨gc, 0, none⟩ (.slice A' k' c')) := by
      rintro A' k' c' rfl rfl rfl
      unfold ReadText
      rw [HD.out, if_neg (show ¬ l.length < m by omega)]
      refine ⟨⟨⟨_, _, _, (h1.drew.drew.set_ne (Ne.symm hg) _).set 0 _, by omega, ?_⟩, hBc⟩, (hb2.drew.drew.set kp _).set_ne hg _, (hcg.drew.drew.setCell (.inl (by simp)) _).setCell (.inl (by simp)) _⟩
      exact hdr.keep fun p hp => (World.cell?_setCell_other _ _ _ _ (fun e => by subst e; simp at hp; omega)).trans (World.cell?_setCell_other _ _ _ _ (fun e => by subst e; simp at hp; omega))
    by_cases hcm : c = m
    · have hres := hres A 0 0 (by rw [if_pos hcm]) (by omega) (by omega)
      have HR := Lib.hid hres
      have hnm : n = m := by omega
      clear hres h1 h3 hR hbn hb2 hnum hdr
      subst hcm
      subst hnm
      generalize l.take n = r at *
      go_wp2_with fail
      go_region
      all_goals
        go_wp2_with fail
        go_region
      all_goals
        go_wp2
        go_end0
        exact ⟨rfl, HR.out⟩
    · have hres := hres (A.map fun x => x.add m) (n - m) (c - m) (by rw [if_neg hcm]) rfl rfl
      have HR := Lib.hid hres
      clear hres h1 h3 hR hbn hb2 hnum hdr
      generalize l.take m = r at *
      go_wp2_with fail
      go_region
      all_goals
        go_wp2_with fail
        go_region
      all_goals
        go_wp2
        go_end0
        exact ⟨rfl, HR.out⟩
end Go.Proofs.YtmbpnkacggngkaaGreatDoor
