/- LedDoJ, LedCln, LedWk, LedIns, LedGone, LedClone, LedDoing, LedApply (put together by bundle.py: only what is needed). -/
import Derived.Deep.RegionHeld3
import Derived.Deep.DeepMust
import Derived.BigQuiet
import Derived.Deep.RegionWith
import Derived.Deep.CutBlock
import Derived.Deep.DeepCutAuto
import Derived.MapKept
import Derived.Test.YtmbpnkacggngkaaGreatDoorLB1
import Derived.Test.YtmbpnkacggngkaaGreatDoorLB3
import Derived.Test.YtmbpnkacggngkaaGreatDoorLB4
import Derived.Test.YtmbpnkacggngkaaGreatDoorLB6
import Derived.Test.YtmbpnkacggngkaaGreatDoorLB7
import Derived.Test.YtmbpnkacggngkaaGreatDoorLB9
section
namespace Go.Proofs.YtmbpnkacggngkaaGreatDoor
open Go.RowKit Mem Led
def RowAt {α : Type} (enc : α → List Value) (k : Nat) (e : TypeId) (g c n : Nat) (w : World) (L : List α) : Prop := L.length = n ∧ ∃ M, Blk w g M e ∧ M.length = c * k ∧ M.take (n * k) = rows enc L
section
variable {α : Type} {enc : α → List Value} {k : Nat} {e : TypeId} {g c n : Nat} {w w' : World} {L : List α}
theorem RowAt.below (h : RowAt enc k e g c n w L) (hb : Below w.heap.size w w') : RowAt enc k e g c n w' L := ⟨h.1, h.2.imp fun _ ⟨h1, h2⟩ => ⟨h1.below hb, h2⟩⟩
theorem RowAt.cell (hk : ∀ x, (enc x).length = k) (h : RowAt enc k e g c n w L) {i j : Nat} {u : Value} (hi : i < L.length) (hu : (enc L[i])[j]? = some u) : w.cell? ⟨g, i * k + j, none⟩ = some u ∧ w.frozen? ⟨g, i * k + j, none⟩ = false := by
 obtain ⟨hl, M, hB, hM, hMt⟩ := h
 have hj : j < k := by
  have := (List.getElem?_eq_some_iff.1 hu).1
  rwa [hk] at this
 have h := rows_at hk hi hj
 have hlt : i * k + j < n * k := by
  have h1 : (i + 1) * k ≤ n * k := Nat.mul_le_mul_right _ (by omega)
  rw [Nat.succ_mul] at h1
  omega
 rw [← hMt, List.getElem?_take, if_pos hlt, hu] at h
 exact ⟨by rw [hB.cell]; exact h, hB.froz _⟩
theorem RowAt.turn (hk : ∀ x, (enc x).length = k) (h : RowAt enc k e g c n w L) {i j : Nat} {x' : α} {u : Value} (hi : i < L.length) (hj : j < k) (he : enc x' = (enc L[i]).set j u) : RowAt enc k e g c n (w.setCell ⟨g, i * k + j, none⟩ u) (L.set i x') := by
 obtain ⟨hl, M, hB, hM, hMt⟩ := h
 refine ⟨by rw [List.length_set, hl], M.set (i * k + j) u, hB.set _ _, by rw [List.length_set, hM], ?_⟩
 have e : M = rows enc L ++ M.drop (n * k) := by rw [← hMt, List.take_append_drop]
 have h := rows_set hk (R := M.drop (n * k)) hi hj he
 rw [← e] at h
 rw [h, List.take_append_of_le_length (by rw [rows_length hk, List.length_set, hl]; exact Nat.le_refl _), List.take_of_length_le (by rw [rows_length hk, List.length_set, hl]; exact Nat.le_refl _)]
theorem RowAt.slot {base gl sl : Nat} {vs : List Value} {tl : TypeId} {w0 : World} (h : RowAt enc k e g c n w L) (hbg : base ≤ g) (hn : n ≤ c) (hc : c ≤ maxLen) (hg : w0.grownBy w (some g)) (hb : Blk w gl vs tl) (hs : vs[sl]? = some (.slice (some ⟨g, 0, none⟩) n c)) : Slot enc k e base gl sl (.slice (some ⟨g, 0, none⟩) n c) L w0 w := by
 obtain ⟨hl, M, hB, hM, hMt⟩ := h
 refine ⟨_, w, (setCell_keep hb hs).symm, hg, ?_, .inl rfl⟩
 rw [hl]
 exact own_of_row hbg hB hn hc hM hMt
end
theorem grown_cell {w w' : World} {g k : Nat} {u : Value} {M : List Value} {t : TypeId} (h : w.grownBy w' (some g)) (hB : Blk w' g M t) : w.grownBy (w'.setCell ⟨g, k, none⟩ u) (some g) := by
 rw [setCell_eq_setRow w' g k M.toArray _ (0, 0) _ hB]
 exact grown_setRow h
theorem setc_far (w : World) {p q : Nat} (k k' : Nat) (v : Value) (h : p ≠ q) : (w.setCell ⟨p, k, none⟩ v).cell? ⟨q, k', none⟩ = w.cell? ⟨q, k', none⟩ := World.cell?_setCell_other _ _ _ _ (fun e => h (by injection e))
theorem grown_of_below {w w' : World} {r : Option Nat} (h : Below w.heap.size w w') : w.grownBy w' r := grown_after h (grown_refl _ _)
theorem keys_two {g c n gl i : Nat} {w wx : World} {K : List Led.Key} {vs : List Value} {tl : TypeId} (st t : Int) (hg : w.grownBy wx (some g)) (hr : RowAt keyRow 4 42 g c n wx K) (hb : Blk wx gl vs tl) (hgg : gl ≠ g) (hi : i < K.length) :
  let wy := ((wx.setCell ⟨g, i * 4 + 2, none⟩ (nm st)).setCell ⟨g, i * 4 + 3, none⟩ (nm t)).drew
  w.grownBy wy (some g) ∧ RowAt keyRow 4 42 g c n wy (K.set i { K[i] with state := st, since := t }) ∧ Blk wy gl vs tl ∧ ∀ p M e, p ≠ g → Blk wx p M e → Blk wy p M e := by
 have r1 := hr.turn keyRow_len (j := 2) (x' := { K[i] with state := st }) (u := nm st) hi (by omega) rfl
 have hi' : i < (K.set i { K[i] with state := st }).length := by rw [List.length_set]; exact hi
 have r2 := r1.turn keyRow_len (j := 3) (x' := { K[i] with state := st, since := t }) (u := nm t) hi' (by omega) (by rw [List.getElem_set_self]; rfl)
 rw [List.set_set] at r2
 have hfar : ∀ p M e, p ≠ g → Blk wx p M e → Blk ((wx.setCell ⟨g, i * 4 + 2, none⟩ (nm st)).setCell ⟨g, i * 4 + 3, none⟩ (nm t)).drew p M e := fun p M e hp h => ((h.set_ne (p := ⟨g, i * 4 + 2, none⟩) hp _).set_ne (p := ⟨g, i * 4 + 3, none⟩) hp _).below (Below.refl _ _).drew
 obtain ⟨_, M, hB, _, _⟩ := hr
 obtain ⟨_, M1, hB1, _, _⟩ := r1
 refine ⟨grown_drew (grown_cell (grown_cell hg hB) hB1), r2.below (Below.refl _ _).drew, hfar _ _ _ hgg hb, hfar⟩
theorem modP_none {α : Type} {p : α → Bool} {f : α → α} : ∀ {L : List α}, L.any p = false → modP p f L = L
 | [], _ => rfl
 | a :: l, h => by
  rw [List.any_cons, Bool.or_eq_false_iff] at h
  unfold modP
  rw [h.1, modP_none h.2]
  simp
def Activated (base gl : Nat) (vK : Value) (K : List Led.Key) (n : Int) (w : World) (x : Ending) (w' : World) : Prop :=
 if within n 0 1099511627776 then
  if K.any (fun j => j.state == 1) then x = .returned (.int .i64 0) ∧ Slot keyRow 4 42 base gl 4 vK (modP (fun j => j.state == 1) (fun j => { j with state := 2, since := n }) (retire n K)) w w'
  else x = .returned (.int .i64 7) ∧ Below w.heap.size w w'
 else x = .returned (.int .i64 1) ∧ Below w.heap.size w w'
set_option maxRecDepth 100000 in
set_option maxHeartbeats 8000000 in
theorem activate_any (gl : Nat) (o : Led.Op) (sv kv : Value) (vs : List Value) (K : List Led.Key) (base : Nat) (vK : Value) (w : World) (hK : K.length ≤ 8)
  (hbl : Blk w gl vs 30) (h4 : vs[4]? = some vK) (hown : w.ownsRow base 42 4 vK K.length (rows keyRow K)) (hne : vK.ownBlock ≠ some gl) :
  Calls Tryz.prog 51 #[.pointer (some ⟨gl, 0, none⟩), .agg (opCells o sv kv).toArray] w (Activated base gl vK K o.n w) := by
 obtain ⟨W, hW⟩ : ∃ W, w.alloc (.cells (opCells o sv kv).toArray 47) = W := ⟨_, rfl⟩
 have b0 : Blk W w.heap.size (opCells o sv kv) 47 := by rw [← hW]; exact Blk.new w _ _
 have hbW : Below w.heap.size w W := by rw [← hW]; exact (Below.refl _ _).alloc (Nat.le_refl _) _
 have hs1 := state_any gl vs 1 K base vK W (by omega) (hbl.below hbW) h4 (own_below hown hbW (Nat.le_refl _))
 have HS2 := Lib.hid (fun w1 (hb : Below W.heap.size W w1) => state_any gl vs 2 K base vK w1 (by omega) ((hbl.below hbW).below hb) h4 (own_below (own_below hown hbW (Nat.le_refl _)) hb (Nat.le_refl _)))
 have HW := Lib.hid hW
 clear hW
 obtain ⟨CS, hCS⟩ : ∃ CS, (opCells o sv kv).toArray = CS := ⟨_, rfl⟩
 rw [hCS] at HW ⊢
 clear hCS
 obtain ⟨p, hp⟩ : ∃ p, idxOf (fun k : Led.Key => k.state == 1) K = p := ⟨_, rfl⟩
 obtain ⟨a, ha⟩ : ∃ a, idxOf (fun k : Led.Key => k.state == 2) K = a := ⟨_, rfl⟩
 rw [hp] at hs1
 rw [ha] at HS2
 have HP := Lib.hid hp
 have HA := Lib.hid ha
 clear hp ha
 go_enter Tryz.func51, Tryz.ntmps51
 go_upto_region 1 with fail
 rw [HW.out]
 clear HW
 go_wp2_with fail
 refine hs1.mono ?_
 rintro e w1 ⟨rfl, hb1⟩
 go_wp2_with fail
 refine (HS2.out w1 hb1).mono ?_
 rintro e w2 ⟨rfl, hb2⟩
 have hb02 : Below W.heap.size W w2 := hb1.trans (hb2.mono hb1.size)
 have hbw2 : Below w.heap.size w w2 := hbW.trans (hb02.mono hbW.size)
 have b2 := b0.below hb02
 have c1 : w2.cell? ⟨w.heap.size, 1, none⟩ = some (.int .i64 o.n) := b2.cell 1
 clear hs1 HS2
 cases hin : within o.n 0 1099511627776
 ·have HR : Hid (∀ w', Below w.heap.size w w' → Activated base gl vK K o.n w (.returned (.int .i64 1)) w') := Lib.hid (fun w' h => by unfold Activated; rw [hin]; exact ⟨rfl, h⟩)
  go_wp2_with fail
  refine (inb_any _ _ _ _).mono ?_
  rintro e w3 ⟨rfl, hw3⟩
  have hw4 := hw3.symm
  subst hw4
  go_wp2_with fail
  go_ret
  exact HR.out _ hbw2
 ·rcases idx_cases (fun k : Led.Key => k.state == 1) K with ⟨hi, hany⟩ | ⟨i, hiL, hi, hany, hpi, hlo⟩
  ·have e := HP.out.symm.trans hi
   subst e
   have HR : Hid (∀ w', Below w.heap.size w w' → Activated base gl vK K o.n w (.returned (.int .i64 7)) w') := Lib.hid (fun w' h => by unfold Activated; rw [hin, hany]; exact ⟨rfl, h⟩)
   clear hi hany
   go_wp2_with fail
   refine (inb_any _ _ _ _).mono ?_
   rintro e w3 ⟨rfl, hw3⟩
   have hw4 := hw3.symm
   subst hw4
   go_wp2_with fail
   go_ret
   exact HR.out _ hbw2
  ·have e := HP.out.symm.trans hi
   subst e
   rcases own_cases hown with ⟨_, h0, _⟩ | ⟨g, c, M, rfl, hbg, hgw, hB, hnc, hcm, hM, hMt⟩
   ·omega
   have hgg : gl ≠ g := fun e => hne (by simp [Value.ownBlock, e])
   have hrow : RowAt keyRow 4 42 g c K.length w K := ⟨rfl, M, hB, hM, hMt⟩
   have HR : Hid (∀ w', Slot keyRow 4 42 base gl 4 (.slice (some ⟨g, 0, none⟩) K.length c) (modP (fun j => j.state == 1) (fun j => { j with state := 2, since := o.n }) (retire o.n K)) w w' → Activated base gl (.slice (some ⟨g, 0, none⟩) K.length c) K o.n w (.returned (.int .i64 0)) w') := Lib.hid (fun w' h => by unfold Activated; rw [hin, hany]; exact ⟨rfl, h⟩)
   have hi0 : ¬ ((i : Int) < 0) := by omega
   have hi1 : (i : Int) < (K.length : Int) := by omega
   have hrow2 := hrow.below hbw2
   have hbl2 := hbl.below hbw2
   have cK : w2.cell? ⟨gl, 4, none⟩ = some (.slice (some ⟨g, 0, none⟩) K.length c) := (hbl2.cell 4).trans h4
   rcases idx_cases (fun k : Led.Key => k.state == 2) K with ⟨hi2, hany2⟩ | ⟨i2, hiL2, hi2, hany2, hpi2, hlo2⟩
   ·have e := HA.out.symm.trans hi2
    subst e
    have hret : retire o.n K = K := modP_none hany2
    have HF := Lib.hid (keys_two 2 o.n (grown_of_below hbw2) hrow2 hbl2 hgg hiL)
    have HM := Lib.hid (modP_at (p := fun j : Led.Key => j.state == 1) (f := fun j => { j with state := 2, since := o.n }) hiL hlo hpi)
    rw [hret] at HR
    have cS := (hrow2.cell keyRow_len (j := 2) (u := nm K[i].state) hiL rfl)
    have cT := (hrow2.cell keyRow_len (j := 3) (u := nm K[i].since) hiL rfl)
    have hdd : decide ((0 : Int) ≤ -1) = false := by decide
    go_wp2_with fail
    refine (inb_any _ _ _ _).mono ?_
    rintro e w3 ⟨rfl, hw3⟩
    have hw4 := hw3.symm
    subst hw4
    clear hrow hi hany hpi hlo hi2 hany2 hret HP HA hown hB hM hMt hrow2
    unfold nm at cS cT
    obtain ⟨cS, cSf⟩ := cS
    obtain ⟨cT, cTf⟩ := cT
    obtain ⟨s1, hs1⟩ : ∃ x, K[i].state = x := ⟨_, rfl⟩
    obtain ⟨s2, hs2⟩ : ∃ x, K[i].since = x := ⟨_, rfl⟩
    rw [hs1] at cS
    rw [hs2] at cT
    clear hs1 hs2
    have HK : Hid ((∀ (w' : World) (k : Nat) (u : Value), (w'.cell? ⟨gl, 4, none⟩ = some (.slice (some ⟨g, 0, none⟩) K.length c) ∧ w'.cell? ⟨w.heap.size, 1, none⟩ = some (.int .i64 o.n)) → (w'.setCell ⟨g, k, none⟩ u).cell? ⟨gl, 4, none⟩ = some (.slice (some ⟨g, 0, none⟩) K.length c) ∧ (w'.setCell ⟨g, k, none⟩ u).cell? ⟨w.heap.size, 1, none⟩ = some (.int .i64 o.n)) ∧ (∀ (w' : World), (w'.cell? ⟨gl, 4, none⟩ = some (.slice (some ⟨g, 0, none⟩) K.length c) ∧ w'.cell? ⟨w.heap.size, 1, none⟩ = some (.int .i64 o.n)) → w'.drew.cell? ⟨gl, 4, none⟩ = some (.slice (some ⟨g, 0, none⟩) K.length c) ∧ w'.drew.cell? ⟨w.heap.size, 1, none⟩ = some (.int .i64 o.n))) :=
     Lib.hid ⟨fun w' k u h => ⟨(setc_far _ _ _ _ hgg.symm).trans h.1, (setc_far _ _ _ _ (by omega)).trans h.2⟩, fun w' h => h⟩
    go_upto_region 8 with fail
    go_region_held3 (fun w' => w'.cell? ⟨gl, 4, none⟩ = some (.slice (some ⟨g, 0, none⟩) K.length c) ∧ w'.cell? ⟨w.heap.size, 1, none⟩ = some (.int .i64 o.n)) (first | exact HK.out.1 _ _ _ ⟨by assumption, by assumption⟩ | exact HK.out.1 _ _ _ (by assumption) | exact HK.out.2 _ (HK.out.1 _ _ _ ⟨by assumption, by assumption⟩) | exact HK.out.2 _ (HK.out.1 _ _ _ (by assumption)) | go_keep) (fail)
    go_wp2_with fail
    go_ret
    obtain ⟨f1, f2, f3, _⟩ := HF.out
    refine HR.out _ ?_
    rw [HM.out]
    exact f2.slot hbg hnc hcm f1 f3 h4
   ·have e := HA.out.symm.trans hi2
    subst e
    have hii : i ≠ i2 := fun e => by
     subst e
     rw [beq_iff_eq] at hpi hpi2
     omega
    obtain ⟨K1, hK1⟩ : ∃ K1, K.set i2 { K[i2] with state := 3, since := o.n } = K1 := ⟨_, rfl⟩
    have hret : retire o.n K = K1 := (modP_at (p := fun j : Led.Key => j.state == 2) (f := fun j => { j with state := 3, since := o.n }) hiL2 hlo2 hpi2).trans hK1
    have hKl : K1.length = K.length := by rw [← hK1, List.length_set]
    have hiL1 : i < K1.length := by omega
    have hpi1 : (K1[i].state == 1) = true := by
     have : K1[i] = K[i] := by
      simp only [← hK1]
      exact List.getElem_set_ne (Ne.symm hii) _
     rw [this]
     exact hpi
    have hlo1 : ∀ x ∈ K1.take i, (x.state == 1) = false := by
     intro x hx
     rw [← hK1] at hx
     rcases List.mem_or_eq_of_mem_set (by rw [List.take_set] at hx; exact hx) with h | h
     ·exact hlo x h
     ·subst h
      rfl
    have F3 := Lib.hid (keys_two 3 o.n (grown_of_below hbw2) hrow2 hbl2 hgg hiL2)
    have HM := Lib.hid (modP_at (p := fun j : Led.Key => j.state == 1) (f := fun j => { j with state := 2, since := o.n }) hiL1 hlo1 hpi1)
    rw [hret] at HR
    rw [hK1] at F3
    have hia : 0 ≤ (i2 : Int) := by omega
    have hib : ¬ ((i2 : Int) < 0) := by omega
    have hic : (i2 : Int) < (K.length : Int) := by omega
    have HK1 := Lib.hid (And.intro hKl hiL1)
    clear hlo1 hpi1 hii hret hK1 hlo2 hpi2
    have cS := (hrow2.cell keyRow_len (j := 2) (u := nm K[i2].state) hiL2 rfl)
    have cT := (hrow2.cell keyRow_len (j := 3) (u := nm K[i2].since) hiL2 rfl)
    go_wp2_with fail
    refine (inb_any _ _ _ _).mono ?_
    rintro e w3 ⟨rfl, hw3⟩
    have hw4 := hw3.symm
    subst hw4
    clear hrow hi hany hpi hlo hi2 hany2 HP HA hown hB hM hMt
    unfold nm at cS cT
    obtain ⟨cS, cSf⟩ := cS
    obtain ⟨cT, cTf⟩ := cT
    obtain ⟨s1, hs1⟩ : ∃ x, K[i2].state = x := ⟨_, rfl⟩
    obtain ⟨s2, hs2⟩ : ∃ x, K[i2].since = x := ⟨_, rfl⟩
    rw [hs1] at cS
    rw [hs2] at cT
    clear hs1 hs2
    have HK : Hid ((∀ (w' : World) (k : Nat) (u : Value), (w'.cell? ⟨gl, 4, none⟩ = some (.slice (some ⟨g, 0, none⟩) K.length c) ∧ w'.cell? ⟨w.heap.size, 1, none⟩ = some (.int .i64 o.n)) → (w'.setCell ⟨g, k, none⟩ u).cell? ⟨gl, 4, none⟩ = some (.slice (some ⟨g, 0, none⟩) K.length c) ∧ (w'.setCell ⟨g, k, none⟩ u).cell? ⟨w.heap.size, 1, none⟩ = some (.int .i64 o.n)) ∧ (∀ (w' : World), (w'.cell? ⟨gl, 4, none⟩ = some (.slice (some ⟨g, 0, none⟩) K.length c) ∧ w'.cell? ⟨w.heap.size, 1, none⟩ = some (.int .i64 o.n)) → w'.drew.cell? ⟨gl, 4, none⟩ = some (.slice (some ⟨g, 0, none⟩) K.length c) ∧ w'.drew.cell? ⟨w.heap.size, 1, none⟩ = some (.int .i64 o.n))) :=
     Lib.hid ⟨fun w' k u h => ⟨(setc_far _ _ _ _ hgg.symm).trans h.1, (setc_far _ _ _ _ (by omega)).trans h.2⟩, fun w' h => h⟩
    go_upto_region 7 with fail
    go_region_held3 (fun w' => w'.cell? ⟨gl, 4, none⟩ = some (.slice (some ⟨g, 0, none⟩) K.length c) ∧ w'.cell? ⟨w.heap.size, 1, none⟩ = some (.int .i64 o.n)) (first | exact HK.out.1 _ _ _ ⟨by assumption, by assumption⟩ | exact HK.out.1 _ _ _ (by assumption) | exact HK.out.2 _ (HK.out.1 _ _ _ ⟨by assumption, by assumption⟩) | exact HK.out.2 _ (HK.out.1 _ _ _ (by assumption)) | go_keep) (fail)
    obtain ⟨w3, hw3e⟩ : ∃ w3, ((w2.setCell ⟨g, i2 * 4 + 2, none⟩ (nm 3)).setCell ⟨g, i2 * 4 + 3, none⟩ (nm o.n)).drew = w3 := ⟨_, rfl⟩
    rw [hw3e] at F3
    obtain ⟨f1, f2, f3, f4⟩ := F3.out
    have b3 := f4 _ _ _ (by omega) b2
    have c3 : w3.cell? ⟨w.heap.size, 1, none⟩ = some (.int .i64 o.n) := b3.cell 1
    have cK3 : w3.cell? ⟨gl, 4, none⟩ = some (.slice (some ⟨g, 0, none⟩) K.length c) := (f3.cell 4).trans h4
    have HF := Lib.hid (keys_two 2 o.n f1 f2 f3 hgg hiL1)
    have cS := (f2.cell keyRow_len (j := 2) (u := nm K1[i].state) hiL1 rfl)
    have cT := (f2.cell keyRow_len (j := 3) (u := nm K1[i].since) hiL1 rfl)
    clear f1 f2 f4 F3
    have HE : Hid (_) := Lib.hid hw3e
    clear hw3e
    unfold nm at cS cT
    obtain ⟨cS, cSf⟩ := cS
    obtain ⟨cT, cTf⟩ := cT
    obtain ⟨s1, hs1⟩ : ∃ x, K1[i].state = x := ⟨_, rfl⟩
    obtain ⟨s2, hs2⟩ : ∃ x, K1[i].since = x := ⟨_, rfl⟩
    rw [hs1] at cS
    rw [hs2] at cT
    clear hs1 hs2
    rw [show ((w2.setCell ⟨g, i2 * 4 + 2, none⟩ (.int .i64 3)).setCell ⟨g, i2 * 4 + 3, none⟩ (.int .i64 o.n)).drew = w3 from HE.out]
    clear HE
    go_upto_region 8 with fail
    go_region_held3 (fun w' => w'.cell? ⟨gl, 4, none⟩ = some (.slice (some ⟨g, 0, none⟩) K.length c) ∧ w'.cell? ⟨w.heap.size, 1, none⟩ = some (.int .i64 o.n)) (first | exact HK.out.1 _ _ _ ⟨by assumption, by assumption⟩ | exact HK.out.1 _ _ _ (by assumption) | exact HK.out.2 _ (HK.out.1 _ _ _ ⟨by assumption, by assumption⟩) | exact HK.out.2 _ (HK.out.1 _ _ _ (by assumption)) | go_keep) (fail)
    go_wp2_with fail
    go_ret
    obtain ⟨f1, f2, f3, _⟩ := HF.out
    refine HR.out _ ?_
    rw [HM.out]
    exact f2.slot hbg hnc hcm f1 f3 h4
end Go.Proofs.YtmbpnkacggngkaaGreatDoor
end
section
namespace Go.Proofs.YtmbpnkacggngkaaGreatDoor
open Go.RowKit Mem Led
def Cloned (xs : List Value) (e : TypeId) (k n : Nat) (w : World) (x : Ending) (w' : World) : Prop := ∃ v', x = .returned v' ∧ w'.ownsRow w.heap.size e k v' n xs ∧ Below w.heap.size w w'
set_option maxRecDepth 100000 in
set_option maxHeartbeats 4000000 in
theorem clnEnt_any (A : Option Addr) (n c : Nat) (xs : List Value) (w : World) (h : Vs w w.heap.size 5 A n xs) (hn : n ≤ 1000) (hA : A = none → n = 0) (h1 : ∀ u ∈ xs, u.oneCell' = true) :
  Calls Tryz.prog 57 #[.slice A n c] w (Cloned xs 36 5 n w) := by
 cases A with
 | none =>
  have hn0 := hA rfl
  subst hn0
  have hxs : xs = [] := List.eq_nil_of_length_eq_zero (by have := h.len; simpa using this)
  subst hxs
  have e0 : ∀ W, (Go.binOp .eql 23 (.slice none 0 c) (.slice none 0 0)).run Tryz.prog W = .ok (.bool true) W := fun W => Lib.run_eql_slice_nil W _ _ _ _ _ _ _ Tryz.underlying23
  go_enter Tryz.func57, Tryz.ntmps57
  go_wp2
  go_ret
  exact ⟨_, rfl, ⟨rfl, .inl ⟨rfl, rfl⟩⟩, Below.refl _ _⟩
 | some ad =>
  obtain ⟨iT, hiT, hzT, hsT, hbT⟩ := info_parts infoEnt
  have e0 : ∀ W, (Go.binOp .eql 23 (.slice (some ad) n c) (.slice none 0 0)).run Tryz.prog W = .ok (.bool false) W := fun W => Lib.run_eql_slice_nil W _ _ _ _ _ _ _ Tryz.underlying23
  obtain ⟨W, hW⟩ : ∃ W, w.alloc (.cells #[] 36) = W := ⟨_, rfl⟩
  have hown : W.ownsRow w.heap.size 36 5 (.slice (some ⟨w.heap.size, 0, none⟩) 0 0) 0 [] := by rw [← hW]; exact World.ownsRow_made w #[] 0 (Nat.le_refl _) (Nat.zero_le _) (by simp)
  have hbW : Below w.heap.size w W := by rw [← hW]; exact (Below.refl _ _).alloc (Nat.le_refl _) _
  obtain ⟨v', w', hrun, hown', hg, hb⟩ := run_append (P := Tryz.prog) W w.heap.size 23 23 36 iT _ 5 72 Tryz.underlying23 hiT hzT hsT hbT rfl (by omega) _ 0 _ hown w.heap.size (some ad) n c xs (h.below hbW) h1 (by unfold maxLen; omega) (by omega) hbW.size
  have HRES : Hid (Cloned xs 36 5 n w (.returned v') w') := Lib.hid ⟨v', rfl, by simpa using hown', Mem.below_grown hbW hg hbW.size hown (Nat.le_refl _)⟩
  rw [← hW] at hrun
  clear hown hown' hg hb h h1 hA hbW hW
  go_enter Tryz.func57, Tryz.ntmps57
  go_wp2_with (at_builtin; refine Lib.wpList_append_run _ rfl _ _ _ _ rfl _ _ rfl rfl _ _ hrun ?_)
  go_ret
  exact HRES.out
set_option maxRecDepth 100000 in
set_option maxHeartbeats 4000000 in
theorem clnNod_any (A : Option Addr) (n c : Nat) (xs : List Value) (w : World) (h : Vs w w.heap.size 5 A n xs) (hn : n ≤ 1000) (hA : A = none → n = 0) (h1 : ∀ u ∈ xs, u.oneCell' = true) :
  Calls Tryz.prog 58 #[.slice A n c] w (Cloned xs 40 5 n w) := by
 cases A with
 | none =>
  have hn0 := hA rfl
  subst hn0
  have hxs : xs = [] := List.eq_nil_of_length_eq_zero (by have := h.len; simpa using this)
  subst hxs
  have e0 : ∀ W, (Go.binOp .eql 24 (.slice none 0 c) (.slice none 0 0)).run Tryz.prog W = .ok (.bool true) W := fun W => Lib.run_eql_slice_nil W _ _ _ _ _ _ _ Tryz.underlying24
  go_enter Tryz.func58, Tryz.ntmps58
  go_wp2
  go_ret
  exact ⟨_, rfl, ⟨rfl, .inl ⟨rfl, rfl⟩⟩, Below.refl _ _⟩
 | some ad =>
  obtain ⟨iT, hiT, hzT, hsT, hbT⟩ := info_parts infoNod
  have e0 : ∀ W, (Go.binOp .eql 24 (.slice (some ad) n c) (.slice none 0 0)).run Tryz.prog W = .ok (.bool false) W := fun W => Lib.run_eql_slice_nil W _ _ _ _ _ _ _ Tryz.underlying24
  obtain ⟨W, hW⟩ : ∃ W, w.alloc (.cells #[] 40) = W := ⟨_, rfl⟩
  have hown : W.ownsRow w.heap.size 40 5 (.slice (some ⟨w.heap.size, 0, none⟩) 0 0) 0 [] := by rw [← hW]; exact World.ownsRow_made w #[] 0 (Nat.le_refl _) (Nat.zero_le _) (by simp)
  have hbW : Below w.heap.size w W := by rw [← hW]; exact (Below.refl _ _).alloc (Nat.le_refl _) _
  obtain ⟨v', w', hrun, hown', hg, hb⟩ := run_append (P := Tryz.prog) W w.heap.size 24 24 40 iT _ 5 64 Tryz.underlying24 hiT hzT hsT hbT rfl (by omega) _ 0 _ hown w.heap.size (some ad) n c xs (h.below hbW) h1 (by unfold maxLen; omega) (by omega) hbW.size
  have HRES : Hid (Cloned xs 40 5 n w (.returned v') w') := Lib.hid ⟨v', rfl, by simpa using hown', Mem.below_grown hbW hg hbW.size hown (Nat.le_refl _)⟩
  rw [← hW] at hrun
  clear hown hown' hg hb h h1 hA hbW hW
  go_enter Tryz.func58, Tryz.ntmps58
  go_wp2_with (at_builtin; refine Lib.wpList_append_run _ rfl _ _ _ _ rfl _ _ rfl rfl _ _ hrun ?_)
  go_ret
  exact HRES.out
set_option maxRecDepth 100000 in
set_option maxHeartbeats 4000000 in
theorem clnJoi_any (A : Option Addr) (n c : Nat) (xs : List Value) (w : World) (h : Vs w w.heap.size 4 A n xs) (hn : n ≤ 1000) (hA : A = none → n = 0) (h1 : ∀ u ∈ xs, u.oneCell' = true) :
  Calls Tryz.prog 59 #[.slice A n c] w (Cloned xs 38 4 n w) := by
 cases A with
 | none =>
  have hn0 := hA rfl
  subst hn0
  have hxs : xs = [] := List.eq_nil_of_length_eq_zero (by have := h.len; simpa using this)
  subst hxs
  have e0 : ∀ W, (Go.binOp .eql 26 (.slice none 0 c) (.slice none 0 0)).run Tryz.prog W = .ok (.bool true) W := fun W => Lib.run_eql_slice_nil W _ _ _ _ _ _ _ Tryz.underlying26
  go_enter Tryz.func59, Tryz.ntmps59
  go_wp2
  go_ret
  exact ⟨_, rfl, ⟨rfl, .inl ⟨rfl, rfl⟩⟩, Below.refl _ _⟩
 | some ad =>
  obtain ⟨iT, hiT, hzT, hsT, hbT⟩ := info_parts infoJoi
  have e0 : ∀ W, (Go.binOp .eql 26 (.slice (some ad) n c) (.slice none 0 0)).run Tryz.prog W = .ok (.bool false) W := fun W => Lib.run_eql_slice_nil W _ _ _ _ _ _ _ Tryz.underlying26
  obtain ⟨W, hW⟩ : ∃ W, w.alloc (.cells #[] 38) = W := ⟨_, rfl⟩
  have hown : W.ownsRow w.heap.size 38 4 (.slice (some ⟨w.heap.size, 0, none⟩) 0 0) 0 [] := by rw [← hW]; exact World.ownsRow_made w #[] 0 (Nat.le_refl _) (Nat.zero_le _) (by simp)
  have hbW : Below w.heap.size w W := by rw [← hW]; exact (Below.refl _ _).alloc (Nat.le_refl _) _
  obtain ⟨v', w', hrun, hown', hg, hb⟩ := run_append (P := Tryz.prog) W w.heap.size 26 26 38 iT _ 4 48 Tryz.underlying26 hiT hzT hsT hbT rfl (by omega) _ 0 _ hown w.heap.size (some ad) n c xs (h.below hbW) h1 (by unfold maxLen; omega) (by omega) hbW.size
  have HRES : Hid (Cloned xs 38 4 n w (.returned v') w') := Lib.hid ⟨v', rfl, by simpa using hown', Mem.below_grown hbW hg hbW.size hown (Nat.le_refl _)⟩
  rw [← hW] at hrun
  clear hown hown' hg hb h h1 hA hbW hW
  go_enter Tryz.func59, Tryz.ntmps59
  go_wp2_with (at_builtin; refine Lib.wpList_append_run _ rfl _ _ _ _ rfl _ _ rfl rfl _ _ hrun ?_)
  go_ret
  exact HRES.out
set_option maxRecDepth 100000 in
set_option maxHeartbeats 4000000 in
theorem clnKey_any (A : Option Addr) (n c : Nat) (xs : List Value) (w : World) (h : Vs w w.heap.size 4 A n xs) (hn : n ≤ 1000) (hA : A = none → n = 0) (h1 : ∀ u ∈ xs, u.oneCell' = true) :
  Calls Tryz.prog 60 #[.slice A n c] w (Cloned xs 42 4 n w) := by
 cases A with
 | none =>
  have hn0 := hA rfl
  subst hn0
  have hxs : xs = [] := List.eq_nil_of_length_eq_zero (by have := h.len; simpa using this)
  subst hxs
  have e0 : ∀ W, (Go.binOp .eql 27 (.slice none 0 c) (.slice none 0 0)).run Tryz.prog W = .ok (.bool true) W := fun W => Lib.run_eql_slice_nil W _ _ _ _ _ _ _ Tryz.underlying27
  go_enter Tryz.func60, Tryz.ntmps60
  go_wp2
  go_ret
  exact ⟨_, rfl, ⟨rfl, .inl ⟨rfl, rfl⟩⟩, Below.refl _ _⟩
 | some ad =>
  obtain ⟨iT, hiT, hzT, hsT, hbT⟩ := info_parts infoKey
  have e0 : ∀ W, (Go.binOp .eql 27 (.slice (some ad) n c) (.slice none 0 0)).run Tryz.prog W = .ok (.bool false) W := fun W => Lib.run_eql_slice_nil W _ _ _ _ _ _ _ Tryz.underlying27
  obtain ⟨W, hW⟩ : ∃ W, w.alloc (.cells #[] 42) = W := ⟨_, rfl⟩
  have hown : W.ownsRow w.heap.size 42 4 (.slice (some ⟨w.heap.size, 0, none⟩) 0 0) 0 [] := by rw [← hW]; exact World.ownsRow_made w #[] 0 (Nat.le_refl _) (Nat.zero_le _) (by simp)
  have hbW : Below w.heap.size w W := by rw [← hW]; exact (Below.refl _ _).alloc (Nat.le_refl _) _
  obtain ⟨v', w', hrun, hown', hg, hb⟩ := run_append (P := Tryz.prog) W w.heap.size 27 27 42 iT _ 4 48 Tryz.underlying27 hiT hzT hsT hbT rfl (by omega) _ 0 _ hown w.heap.size (some ad) n c xs (h.below hbW) h1 (by unfold maxLen; omega) (by omega) hbW.size
  have HRES : Hid (Cloned xs 42 4 n w (.returned v') w') := Lib.hid ⟨v', rfl, by simpa using hown', Mem.below_grown hbW hg hbW.size hown (Nat.le_refl _)⟩
  rw [← hW] at hrun
  clear hown hown' hg hb h h1 hA hbW hW
  go_enter Tryz.func60, Tryz.ntmps60
  go_wp2_with (at_builtin; refine Lib.wpList_append_run _ rfl _ _ _ _ rfl _ _ rfl rfl _ _ hrun ?_)
  go_ret
  exact HRES.out
set_option maxRecDepth 100000 in
set_option maxHeartbeats 4000000 in
theorem clnBun_any (A : Option Addr) (n c : Nat) (xs : List Value) (w : World) (h : Vs w w.heap.size 3 A n xs) (hn : n ≤ 1000) (hA : A = none → n = 0) (h1 : ∀ u ∈ xs, u.oneCell' = true) :
  Calls Tryz.prog 61 #[.slice A n c] w (Cloned xs 45 3 n w) := by
 cases A with
 | none =>
  have hn0 := hA rfl
  subst hn0
  have hxs : xs = [] := List.eq_nil_of_length_eq_zero (by have := h.len; simpa using this)
  subst hxs
  have e0 : ∀ W, (Go.binOp .eql 28 (.slice none 0 c) (.slice none 0 0)).run Tryz.prog W = .ok (.bool true) W := fun W => Lib.run_eql_slice_nil W _ _ _ _ _ _ _ Tryz.underlying28
  go_enter Tryz.func61, Tryz.ntmps61
  go_wp2
  go_ret
  exact ⟨_, rfl, ⟨rfl, .inl ⟨rfl, rfl⟩⟩, Below.refl _ _⟩
 | some ad =>
  obtain ⟨iT, hiT, hzT, hsT, hbT⟩ := info_parts infoBun
  have e0 : ∀ W, (Go.binOp .eql 28 (.slice (some ad) n c) (.slice none 0 0)).run Tryz.prog W = .ok (.bool false) W := fun W => Lib.run_eql_slice_nil W _ _ _ _ _ _ _ Tryz.underlying28
  obtain ⟨W, hW⟩ : ∃ W, w.alloc (.cells #[] 45) = W := ⟨_, rfl⟩
  have hown : W.ownsRow w.heap.size 45 3 (.slice (some ⟨w.heap.size, 0, none⟩) 0 0) 0 [] := by rw [← hW]; exact World.ownsRow_made w #[] 0 (Nat.le_refl _) (Nat.zero_le _) (by simp)
  have hbW : Below w.heap.size w W := by rw [← hW]; exact (Below.refl _ _).alloc (Nat.le_refl _) _
  obtain ⟨v', w', hrun, hown', hg, hb⟩ := run_append (P := Tryz.prog) W w.heap.size 28 28 45 iT _ 3 48 Tryz.underlying28 hiT hzT hsT hbT rfl (by omega) _ 0 _ hown w.heap.size (some ad) n c xs (h.below hbW) h1 (by unfold maxLen; omega) (by omega) hbW.size
  have HRES : Hid (Cloned xs 45 3 n w (.returned v') w') := Lib.hid ⟨v', rfl, by simpa using hown', Mem.below_grown hbW hg hbW.size hown (Nat.le_refl _)⟩
  rw [← hW] at hrun
  clear hown hown' hg hb h h1 hA hbW hW
  go_enter Tryz.func61, Tryz.ntmps61
  go_wp2_with (at_builtin; refine Lib.wpList_append_run _ rfl _ _ _ _ rfl _ _ rfl rfl _ _ hrun ?_)
  go_ret
  exact HRES.out
set_option maxRecDepth 100000 in
set_option maxHeartbeats 4000000 in
theorem clnStr_any (A : Option Addr) (n c : Nat) (xs : List Value) (w : World) (h : Vs w w.heap.size 1 A n xs) (hn : n ≤ 1000) (hA : A = none → n = 0) (h1 : ∀ u ∈ xs, u.oneCell' = true) :
  Calls Tryz.prog 28 #[.slice A n c] w (Cloned xs 9 1 n w) := by
 cases A with
 | none =>
  have hn0 := hA rfl
  subst hn0
  have hxs : xs = [] := List.eq_nil_of_length_eq_zero (by have := h.len; simpa using this)
  subst hxs
  have e0 : ∀ W, (Go.binOp .eql 25 (.slice none 0 c) (.slice none 0 0)).run Tryz.prog W = .ok (.bool true) W := fun W => Lib.run_eql_slice_nil W _ _ _ _ _ _ _ Tryz.underlying25
  go_enter Tryz.func28, Tryz.ntmps28
  go_wp2
  go_ret
  exact ⟨_, rfl, ⟨rfl, .inl ⟨rfl, rfl⟩⟩, Below.refl _ _⟩
 | some ad =>
  obtain ⟨iT, hiT, hzT, hsT, hbT⟩ := info_parts infoStr
  have e0 : ∀ W, (Go.binOp .eql 25 (.slice (some ad) n c) (.slice none 0 0)).run Tryz.prog W = .ok (.bool false) W := fun W => Lib.run_eql_slice_nil W _ _ _ _ _ _ _ Tryz.underlying25
  obtain ⟨W, hW⟩ : ∃ W, w.alloc (.cells #[] 9) = W := ⟨_, rfl⟩
  have hown : W.ownsRow w.heap.size 9 1 (.slice (some ⟨w.heap.size, 0, none⟩) 0 0) 0 [] := by rw [← hW]; exact World.ownsRow_made w #[] 0 (Nat.le_refl _) (Nat.zero_le _) (by simp)
  have hbW : Below w.heap.size w W := by rw [← hW]; exact (Below.refl _ _).alloc (Nat.le_refl _) _
  obtain ⟨v', w', hrun, hown', hg, hb⟩ := run_append (P := Tryz.prog) W w.heap.size 25 25 9 iT _ 1 16 Tryz.underlying25 hiT hzT hsT hbT rfl (by omega) _ 0 _ hown w.heap.size (some ad) n c xs (h.below hbW) h1 (by unfold maxLen; omega) (by omega) hbW.size
  have HRES : Hid (Cloned xs 9 1 n w (.returned v') w') := Lib.hid ⟨v', rfl, by simpa using hown', Mem.below_grown hbW hg hbW.size hown (Nat.le_refl _)⟩
  rw [← hW] at hrun
  clear hown hown' hg hb h h1 hA hbW hW
  go_enter Tryz.func28, Tryz.ntmps28
  go_wp2_with (at_builtin; refine Lib.wpList_append_run _ rfl _ _ _ _ rfl _ _ rfl rfl _ _ hrun ?_)
  go_ret
  exact HRES.out
theorem infoJwk : (Tryz.prog.info? 54).map (fun i => (i.zero, i.size, i.bytes)) = some (some (.agg #[.string ⟨#[]⟩, .string ⟨#[]⟩]), 2, 32) := by kernel_rfl
set_option maxRecDepth 100000 in
set_option maxHeartbeats 4000000 in
theorem clnJwk_any (A : Option Addr) (n c : Nat) (xs : List Value) (w : World) (h : Vs w w.heap.size 2 A n xs) (hn : n ≤ 1000) (hA : A = none → n = 0) (h1 : ∀ u ∈ xs, u.oneCell' = true) :
  Calls Tryz.prog 29 #[.slice A n c] w (Cloned xs 54 2 n w) := by
 cases A with
 | none =>
  have hn0 := hA rfl
  subst hn0
  have hxs : xs = [] := List.eq_nil_of_length_eq_zero (by have := h.len; simpa using this)
  subst hxs
  have e0 : ∀ W, (Go.binOp .eql 43 (.slice none 0 c) (.slice none 0 0)).run Tryz.prog W = .ok (.bool true) W := fun W => Lib.run_eql_slice_nil W _ _ _ _ _ _ _ Tryz.underlying43
  go_enter Tryz.func29, Tryz.ntmps29
  go_wp2
  go_ret
  exact ⟨_, rfl, ⟨rfl, .inl ⟨rfl, rfl⟩⟩, Below.refl _ _⟩
 | some ad =>
  obtain ⟨iT, hiT, hzT, hsT, hbT⟩ := info_parts infoJwk
  have e0 : ∀ W, (Go.binOp .eql 43 (.slice (some ad) n c) (.slice none 0 0)).run Tryz.prog W = .ok (.bool false) W := fun W => Lib.run_eql_slice_nil W _ _ _ _ _ _ _ Tryz.underlying43
  obtain ⟨W, hW⟩ : ∃ W, w.alloc (.cells #[] 54) = W := ⟨_, rfl⟩
  have hown : W.ownsRow w.heap.size 54 2 (.slice (some ⟨w.heap.size, 0, none⟩) 0 0) 0 [] := by rw [← hW]; exact World.ownsRow_made w #[] 0 (Nat.le_refl _) (Nat.zero_le _) (by simp)
  have hbW : Below w.heap.size w W := by rw [← hW]; exact (Below.refl _ _).alloc (Nat.le_refl _) _
  obtain ⟨v', w', hrun, hown', hg, hb⟩ := run_append (P := Tryz.prog) W w.heap.size 43 43 54 iT _ 2 32 Tryz.underlying43 hiT hzT hsT hbT rfl (by omega) _ 0 _ hown w.heap.size (some ad) n c xs (h.below hbW) h1 (by unfold maxLen; omega) (by omega) hbW.size
  have HRES : Hid (Cloned xs 54 2 n w (.returned v') w') := Lib.hid ⟨v', rfl, by simpa using hown', Mem.below_grown hbW hg hbW.size hown (Nat.le_refl _)⟩
  rw [← hW] at hrun
  clear hown hown' hg hb h h1 hA hbW hW
  go_enter Tryz.func29, Tryz.ntmps29
  go_wp2_with (at_builtin; refine Lib.wpList_append_run _ rfl _ _ _ _ rfl _ _ rfl rfl _ _ hrun ?_)
  go_ret
  exact HRES.out
end Go.Proofs.YtmbpnkacggngkaaGreatDoor
end
section
namespace Go.Proofs.YtmbpnkacggngkaaGreatDoor
open Go.RowKit Mem Led
section
variable {w w' : World} {b b' n n' k k' : Nat} {e e' : TypeId} {u v : Value} {xs ys : List Value}
theorem own_apart (h : w.ownsRow b e k u n xs) (h' : w.ownsRow b' e' k' v n' ys) (he : e ≠ e') : Apart u v := by
 rcases h.2 with ⟨rfl, _⟩ | ⟨g, c, cur, rfl, _, hg, _⟩
 ·exact .inl rfl
 ·rcases h'.2 with ⟨rfl, _⟩ | ⟨g', c', cur', rfl, _, hg', _⟩
  ·exact .inr (by simp [Value.ownBlock])
  ·refine .inr fun hh => ?_
   simp only [Value.ownBlock, Option.some.injEq] at hh
   subst hh
   rw [hg] at hg'
   injection hg' with hg'
   injection hg' with _ h2 _
   exact he h2
theorem own_ne {g : Nat} {M : List Value} (h : w.ownsRow b e k u n xs) (h' : Blk w g M e') (he : e ≠ e') : u.ownBlock ≠ some g := by
 rcases h.2 with ⟨rfl, _⟩ | ⟨g1, c, cur, rfl, _, hg, _⟩
 ·simp [Value.ownBlock]
 ·intro hh
  simp only [Value.ownBlock, Option.some.injEq] at hh
  subst hh
  unfold Blk at h'
  rw [hg] at h'
  injection h' with h'
  injection h' with _ h2 _
  exact he h2
theorem own_lt (h : w.ownsRow b e k u n xs) {g : Nat} (hg : u.ownBlock = some g) : b ≤ g ∧ g < w.heap.size := by
 rcases h.2 with ⟨rfl, _⟩ | ⟨g1, c, cur, rfl, hb, hh, _⟩
 ·simp [Value.ownBlock] at hg
 ·simp only [Value.ownBlock, Option.some.injEq] at hg
  subst hg
  exact ⟨hb, (Array.getElem?_eq_some_iff.1 hh).1⟩
theorem own_vs (h : w.ownsRow b e k u n xs) : ∃ A c, u = .slice A n c ∧ Fit n c A ∧ Vs w w.heap.size k A n xs := by
 rcases own_cases h with ⟨rfl, rfl, rfl⟩ | ⟨g, c, M, rfl, _, hgl, hB, hn, hc, hM, hMt⟩
 ·exact ⟨none, 0, rfl, ⟨Nat.le_refl _, by omega, fun _ => rfl⟩, Vs.empty _ _ _ _⟩
 ·refine ⟨_, c, rfl, ⟨hn, hc, fun h => by cases h⟩, ?_, ?_⟩
  ·rw [← hMt, List.length_take, hM, Nat.min_eq_left (Nat.mul_le_mul_right _ hn)]
  ·intro j x hj
   refine ⟨_, rfl, hgl, ?_⟩
   rw [zero_add_, hB.cell]
   rw [← hMt] at hj
   have := List.getElem?_take (l := M) (i := n * k) (j := j)
   rw [hj] at this
   split at this
   ·exact this.symm
   ·cases this
theorem own_elems {α : Type} {enc : α → List Value} {L : List α} (h : w.ownsRow b e k u n (rows enc L)) : ElemsAt enc k w u L := by
 obtain ⟨A, c, h1, h2, h3⟩ := own_vs h
 exact ⟨A, n, c, h1, h2, h3⟩
theorem own_texts {L : List Txt} (h : w.ownsRow b e 1 u n (rows strRow L)) : TextsAt w u L := by
 obtain ⟨A, c, h1, h2, _⟩ := own_vs h
 subst h1
 exact ⟨A, n, c, rfl, h2, ts_own h⟩
theorem tv_rows (L : List Txt) : rows strRow L = tv L := by
 unfold rows tv strRow
 induction L with
 | nil => rfl
 | cons a l ih => simp only [List.map_cons, List.flatten_cons, ih]; rfl
end
theorem one_rows {α : Type} {enc : α → List Value} {L : List α} (h : ∀ x ∈ L, ∀ u ∈ enc x, u.oneCell' = true) : ∀ u ∈ rows enc L, u.oneCell' = true := by
 intro u hu
 unfold rows at hu
 obtain ⟨r, hr, hur⟩ := List.mem_flatten.1 hu
 obtain ⟨y, hy, rfl⟩ := List.mem_map.1 hr
 exact h y hy u hur
structure Wk (base : Nat) (w : World) (vE vN vB vJ vK vU : Value) (L : Led.Ledger) (E : List (Led.Entry × Value)) (U : List (Led.Bundle × Value)) : Prop where
 oE : w.ownsRow base 36 5 vE E.length (rows entRow E)
 oN : w.ownsRow base 40 5 vN L.nodes.length (rows nodeRow L.nodes)
 oB : w.ownsRow base 9 1 vB L.bans.length (rows strRow L.bans)
 oJ : w.ownsRow base 38 4 vJ L.joins.length (rows joinRow L.joins)
 oK : w.ownsRow base 42 4 vK L.keys.length (rows keyRow L.keys)
 oU : w.ownsRow base 45 3 vU U.length (rows bunRow U)
 ents : E.map Prod.fst = L.entries
 buns : U.map Prod.fst = L.bundles
 sels : ∀ p ∈ E, w.ownsRow base 9 1 p.2 p.1.sels.length (rows strRow p.1.sels) ∧ Apart p.2 vB
 keyss : ∀ p ∈ U, w.ownsRow base 54 2 p.2 p.1.keys.length (rows jwkRow p.1.keys)
section
variable {base : Nat} {w w' : World} {vE vN vB vJ vK vU : Value} {L : Led.Ledger} {E : List (Led.Entry × Value)} {U : List (Led.Bundle × Value)}
theorem Wk.at (h : Wk base w vE vN vB vJ vK vU L E U) : LgAt w [vE, vN, vB, vJ, vK, vU] L E U :=
 ⟨⟨vE, vN, vB, vJ, vK, vU, rfl, own_elems h.oE, own_elems h.oN, own_texts h.oB, own_elems h.oJ, own_elems h.oK, own_elems h.oU⟩, h.ents, h.buns, fun p hp => own_texts (h.sels p hp).1, fun p hp => own_elems (h.keyss p hp)⟩
theorem Wk.below (h : Wk base w vE vN vB vJ vK vU L E U) (hb : Below w.heap.size w w') : Wk base w' vE vN vB vJ vK vU L E U :=
 ⟨own_below h.oE hb (Nat.le_refl _), own_below h.oN hb (Nat.le_refl _), own_below h.oB hb (Nat.le_refl _), own_below h.oJ hb (Nat.le_refl _), own_below h.oK hb (Nat.le_refl _), own_below h.oU hb (Nat.le_refl _), h.ents, h.buns,
  fun p hp => ⟨own_below (h.sels p hp).1 hb (Nat.le_refl _), (h.sels p hp).2⟩, fun p hp => own_below (h.keyss p hp) hb (Nat.le_refl _)⟩
theorem Wk.ones (h : Wk base w vE vN vB vJ vK vU L E U) : ∀ v ∈ [vE, vN, vB, vJ, vK, vU], v.oneCell' = true := by
 have key : ∀ {e : TypeId} {k n : Nat} {v : Value} {xs : List Value}, w.ownsRow base e k v n xs → v.oneCell' = true := fun hv => by
  obtain ⟨A, c, rfl, _⟩ := own_form hv
  rfl
 intro v hv
 simp only [List.mem_cons, List.not_mem_nil, or_false] at hv
 rcases hv with rfl | rfl | rfl | rfl | rfl | rfl
 ·exact key h.oE
 ·exact key h.oN
 ·exact key h.oB
 ·exact key h.oJ
 ·exact key h.oK
 ·exact key h.oU
end
structure Led.Ledger.Small (L : Led.Ledger) : Prop where
 e : L.entries.length ≤ 1000
 n : L.nodes.length ≤ 1000
 b : L.bans.length ≤ 1000
 j : L.joins.length ≤ 1000
 k : L.keys.length ≤ 1000
 u : L.bundles.length ≤ 1000
 s : ∀ x ∈ L.entries, x.sels.length ≤ 1000
 y : ∀ x ∈ L.bundles, x.keys.length ≤ 1000
theorem one_ent {w : World} {E : List (Led.Entry × Value)} (h : ∀ p ∈ E, TextsAt w p.2 p.1.sels) : ∀ u ∈ rows entRow E, u.oneCell' = true := one_rows fun p hp u hu => by
 obtain ⟨A, n, c, he, _⟩ := h p hp
 simp only [entRow, List.mem_cons, List.not_mem_nil, or_false] at hu
 rcases hu with rfl | rfl | rfl | rfl | rfl
 ·rfl
 ·rfl
 ·rfl
 ·rfl
 ·rw [he]; rfl
theorem one_bun {w : World} {U : List (Led.Bundle × Value)} (h : ∀ p ∈ U, ElemsAt jwkRow 2 w p.2 p.1.keys) : ∀ u ∈ rows bunRow U, u.oneCell' = true := one_rows fun p hp u hu => by
 obtain ⟨A, n, c, he, _⟩ := h p hp
 simp only [bunRow, List.mem_cons, List.not_mem_nil, or_false] at hu
 rcases hu with rfl | rfl | rfl
 ·rfl
 ·rfl
 ·rw [he]; rfl
theorem one_node (L : List Led.Node) : ∀ u ∈ rows nodeRow L, u.oneCell' = true := one_rows fun p _ u hu => by
 simp only [nodeRow, List.mem_cons, List.not_mem_nil, or_false] at hu
 rcases hu with rfl | rfl | rfl | rfl | rfl <;> rfl
theorem one_join (L : List Led.Join) : ∀ u ∈ rows joinRow L, u.oneCell' = true := one_rows fun p _ u hu => by
 simp only [joinRow, List.mem_cons, List.not_mem_nil, or_false] at hu
 rcases hu with rfl | rfl | rfl | rfl <;> rfl
theorem one_key (L : List Led.Key) : ∀ u ∈ rows keyRow L, u.oneCell' = true := one_rows fun p _ u hu => by
 simp only [keyRow, List.mem_cons, List.not_mem_nil, or_false] at hu
 rcases hu with rfl | rfl | rfl | rfl <;> rfl
theorem one_jwk (L : List Led.Jwk) : ∀ u ∈ rows jwkRow L, u.oneCell' = true := one_rows fun p _ u hu => by
 simp only [jwkRow, List.mem_cons, List.not_mem_nil, or_false] at hu
 rcases hu with rfl | rfl <;> rfl
theorem one_str (L : List Txt) : ∀ u ∈ rows strRow L, u.oneCell' = true := one_rows fun p _ u hu => by
 simp only [strRow, List.mem_cons, List.not_mem_nil, or_false] at hu
 subst hu
 rfl
end Go.Proofs.YtmbpnkacggngkaaGreatDoor
end
section
namespace Go.Proofs.YtmbpnkacggngkaaGreatDoor
open Go.RowKit Mem Led
structure OpV where
 o : Led.Op
 As : Option Addr
 ns : Nat
 cS : Nat
 Ak : Option Addr
 nk : Nat
 cK : Nat
def opvRow (x : OpV) : List Value := opCells x.o (.slice x.As x.ns x.cS) (.slice x.Ak x.nk x.cK)
theorem opvRow_len (x : OpV) : (opvRow x).length = 24 := rfl
def OpV.In (w : World) (x : OpV) : Prop := OpIn w x.o x.As x.ns x.cS x.Ak x.nk x.cK
theorem OpIn.below {w w' : World} {o : Led.Op} {As : Option Addr} {ns cS : Nat} {Ak : Option Addr} {nk cK : Nat} (h : OpIn w o As ns cS Ak nk cK) (hb : Below w.heap.size w w') : OpIn w' o As ns cS Ak nk cK :=
 ⟨Ts.below h.sels hb, (Vs.below h.keys hb).mono hb.size, h.hs, h.hs', h.hk, h.hk', h.sized⟩
structure OpsIn (w : World) (A : Option Addr) (n : Nat) (L : List OpV) : Prop where
 es : Es opvRow 24 w A n L
 each : ∀ x ∈ L, x.In w
theorem OpsIn.len {w : World} {A : Option Addr} {n : Nat} {L : List OpV} (h : OpsIn w A n L) : L.length = n := h.es.len opvRow_len (by omega)
theorem ldOp_es {w : World} {A : Option Addr} {n : Nat} {L : List OpV} (h : Es opvRow 24 w A n L) {i : Nat} (hi : i < L.length) :
  ∃ b off, A = some ⟨b, off, none⟩ ∧ b < w.heap.size ∧ ∀ w', Below w.heap.size w w' → (loadOp (.pointer (some ⟨b, off + i * 24, none⟩))).run Tryz.prog w' = .ok (.agg (opvRow L[i]).toArray) w' :=
 load_es Tryz.underlying47 rfl size_op opvRow_len (by omega) h hi
theorem cutv_any (x : OpV) (W : World) (h : x.In W) :
  Calls Tryz.prog 13 #[.agg (opvRow x).toArray] W fun e w' => ∃ A1 c1 A2 c2 KK, e = .returned (.agg (opCells (cutOp x.o KK) (.slice A1 (min x.ns 6) c1) (.slice A2 (min x.nk 9) c2)).toArray) ∧ min x.ns 6 ≤ c1 ∧ min x.nk 9 ≤ c2 ∧
   w'.ownsRow W.heap.size 9 1 (.slice A1 (min x.ns 6) c1) (min x.ns 6) (tv ((cutOp x.o KK).entry.sels)) ∧ w'.ownsRow W.heap.size 54 2 (.slice A2 (min x.nk 9) c2) (min x.nk 9) (jv (cutOp x.o KK).bundle.keys) ∧ KeysTo (fun x r => r = Sha.nameOf x) (x.o.bundle.keys.take 9) KK ∧ Below W.heap.size W w' := by
 obtain ⟨o, As, ns, cS, Ak, nk, cK⟩ := x
 have h : OpIn W o As ns cS Ak nk cK := h
 have hs := h.sized
 exact cut_go o.kind o.n o.name o.entry.n o.entry.path o.entry.parent o.entry.ttl o.join.text o.join.name o.join.expires o.join.used o.node.name o.node.key o.node.expires o.node.seq o.node.doc o.key.kid o.key.seed o.key.state o.key.since o.bundle.domain o.bundle.number As ns cS Ak nk cK o.entry.sels o.bundle.keys hs.name hs.epath hs.eparent hs.jtext hs.jname hs.nname hs.nkey hs.ndoc hs.kkid hs.kseed hs.bdom W h.sels hs.esel h.hs h.keys hs.bkey h.hk
end Go.Proofs.YtmbpnkacggngkaaGreatDoor
end
section
namespace Go.Proofs.YtmbpnkacggngkaaGreatDoor
open Go.RowKit Mem
set_option maxRecDepth 100000 in
theorem cloneEntries_nil (w : World) : Calls Tryz.prog 57 #[.slice none 0 0] w fun e w' => e = .returned (.slice none 0 0) ∧ w = w' := by
 have e0 : ∀ w, (Go.binOp .eql 23 (.slice none 0 0) (.slice none 0 0)).run Tryz.prog w = .ok (.bool true) w := fun w => by kernel_rfl
 go_enter Tryz.func57, Tryz.ntmps57
 go_wp2
 go_ret
 exact ⟨rfl, rfl⟩
set_option maxRecDepth 100000 in
theorem cloneNodes_nil (w : World) : Calls Tryz.prog 58 #[.slice none 0 0] w fun e w' => e = .returned (.slice none 0 0) ∧ w = w' := by
 have e0 : ∀ w, (Go.binOp .eql 24 (.slice none 0 0) (.slice none 0 0)).run Tryz.prog w = .ok (.bool true) w := fun w => by kernel_rfl
 go_enter Tryz.func58, Tryz.ntmps58
 go_wp2
 go_ret
 exact ⟨rfl, rfl⟩
set_option maxRecDepth 100000 in
theorem cloneJoins_nil (w : World) : Calls Tryz.prog 59 #[.slice none 0 0] w fun e w' => e = .returned (.slice none 0 0) ∧ w = w' := by
 have e0 : ∀ w, (Go.binOp .eql 26 (.slice none 0 0) (.slice none 0 0)).run Tryz.prog w = .ok (.bool true) w := fun w => by kernel_rfl
 go_enter Tryz.func59, Tryz.ntmps59
 go_wp2
 go_ret
 exact ⟨rfl, rfl⟩
set_option maxRecDepth 100000 in
theorem cloneKeys_nil (w : World) : Calls Tryz.prog 60 #[.slice none 0 0] w fun e w' => e = .returned (.slice none 0 0) ∧ w = w' := by
 have e0 : ∀ w, (Go.binOp .eql 27 (.slice none 0 0) (.slice none 0 0)).run Tryz.prog w = .ok (.bool true) w := fun w => by kernel_rfl
 go_enter Tryz.func60, Tryz.ntmps60
 go_wp2
 go_ret
 exact ⟨rfl, rfl⟩
set_option maxRecDepth 100000 in
theorem cloneBundles_nil (w : World) : Calls Tryz.prog 61 #[.slice none 0 0] w fun e w' => e = .returned (.slice none 0 0) ∧ w = w' := by
 have e0 : ∀ w, (Go.binOp .eql 28 (.slice none 0 0) (.slice none 0 0)).run Tryz.prog w = .ok (.bool true) w := fun w => by kernel_rfl
 go_enter Tryz.func61, Tryz.ntmps61
 go_wp2
 go_ret
 exact ⟨rfl, rfl⟩
set_option maxRecDepth 100000 in
theorem cloneJwks_nil (w : World) : Calls Tryz.prog 29 #[.slice none 0 0] w fun e w' => e = .returned (.slice none 0 0) ∧ w = w' := by
 have e0 : ∀ w, (Go.binOp .eql 43 (.slice none 0 0) (.slice none 0 0)).run Tryz.prog w = .ok (.bool true) w := fun w => by kernel_rfl
 go_enter Tryz.func29, Tryz.ntmps29
 go_wp2
 go_ret
 exact ⟨rfl, rfl⟩
set_option maxRecDepth 100000 in
theorem cloneTexts_nil (w : World) : Calls Tryz.prog 28 #[.slice none 0 0] w fun e w' => e = .returned (.slice none 0 0) ∧ w = w' := by
 have e0 : ∀ w, (Go.binOp .eql 25 (.slice none 0 0) (.slice none 0 0)).run Tryz.prog w = .ok (.bool true) w := fun w => by kernel_rfl
 go_enter Tryz.func28, Tryz.ntmps28
 go_wp2
 go_ret
 exact ⟨rfl, rfl⟩
theorem indexEntries_nil (f : Value) (w : World) : Calls Tryz.prog 134 #[.slice none 0 0, f] w fun e w' => e = .returned (.int .i64 (-1)) ∧ w = w' := by
 go_enter Tryz.func134, Tryz.ntmps134
 go_wp2
 go_loopw [5, 8] (fun _ i wr => i = .int .i64 0 ∧ w = wr) (fun _ _ _ => 0)
 case atStart => exact ⟨rfl, rfl⟩
 case round =>
  obtain ⟨rfl, rfl⟩ := hrel
  go_wp2
  go_ret
  exact ⟨rfl, rfl⟩
theorem indexNodes_nil (f : Value) (w : World) : Calls Tryz.prog 114 #[.slice none 0 0, f] w fun e w' => e = .returned (.int .i64 (-1)) ∧ w = w' := by
 go_enter Tryz.func114, Tryz.ntmps114
 go_wp2
 go_loopw [5, 8] (fun _ i wr => i = .int .i64 0 ∧ w = wr) (fun _ _ _ => 0)
 case atStart => exact ⟨rfl, rfl⟩
 case round =>
  obtain ⟨rfl, rfl⟩ := hrel
  go_wp2
  go_ret
  exact ⟨rfl, rfl⟩
theorem goneEntries_nil (g k : Nat) (f : Value) (w : World) (h : w.cell? ⟨g, k, none⟩ = some (.slice none 0 0)) : Calls Tryz.prog 82 #[.pointer (some ⟨g, k, none⟩), f] w fun e w' => e = .returned (.int .i64 7) ∧ w = w' := by
 have hi := indexEntries_nil f w
 go_enter Tryz.func82, Tryz.ntmps82
 go_wp2_with fail
 refine hi.mono ?_
 rintro e w1 ⟨rfl, rfl⟩
 go_wp2
 go_ret
 exact ⟨rfl, rfl⟩
theorem goneNodes_nil (g k : Nat) (f : Value) (w : World) (h : w.cell? ⟨g, k, none⟩ = some (.slice none 0 0)) : Calls Tryz.prog 98 #[.pointer (some ⟨g, k, none⟩), f] w fun e w' => e = .returned (.int .i64 7) ∧ w = w' := by
 have hi := indexNodes_nil f w
 go_enter Tryz.func98, Tryz.ntmps98
 go_wp2_with fail
 refine hi.mono ?_
 rintro e w1 ⟨rfl, rfl⟩
 go_wp2
 go_ret
 exact ⟨rfl, rfl⟩
theorem search_nil (x f : Value) (w : World) : Calls Tryz.prog 141 #[.slice none 0 0, x, f] w fun e w' => e = .returned (.tuple #[.int .i64 0, .bool false]) ∧ w = w' := by
 go_enter Tryz.func141, Tryz.ntmps141
 go_wp2
 go_loopw [9, 10, 11] (fun i j _ wr => i = .int .i64 0 ∧ j = .int .i64 0 ∧ w = wr) (fun _ _ _ _ => 0)
 case atStart => exact ⟨rfl, rfl, rfl⟩
 case round =>
  obtain ⟨rfl, rfl, rfl⟩ := hrel
  go_wp2
  go_ret2
  exact ⟨rfl, rfl⟩
def OneText (w : World) (x : List UInt8) (e : Ending) (w' : World) : Prop := ∃ A c, e = .returned (.slice A 1 c) ∧ 1 ≤ c ∧ c ≤ 9223372036854775807 ∧ w'.ownsRow w.heap.size 9 1 (.slice A 1 c) 1 (tv [x]) ∧ Below w.heap.size w w'
theorem insert_nil (g : Nat) (x : List UInt8) (w : World) (h : Blk w g (tv [x]) 9) : Calls Tryz.prog 142 #[.slice none 0 0, .int .i64 0, .slice (some ⟨g, 0, none⟩) 1 1] w (OneText w x) := by
 obtain ⟨iT, hiT, hzT, hsT, hbT⟩ := info_parts infoT
 have hv : Vs w w.heap.size 1 (some ⟨g, 0, none⟩) 1 (tv [x]) := ⟨rfl, fun j u hj => ⟨_, rfl, h.lt, by rw [zero_add_, h.cell j]; exact hj⟩⟩
 go_enter Tryz.func142, Tryz.ntmps142
 go_wp2_with (at_builtin; go_must (refine wpList_append w rfl (.tmp 23) (.tmp 24) 25 rfl w.heap.size 9 iT (.string ⟨#[]⟩) 1 16 Tryz.underlying25 hiT hzT hsT hbT rfl (by omega) (.slice none 0 0) 0 [] rfl (World.ownsRow_nil _ _ _ _) w.heap.size (some ⟨g, 0, none⟩) 1 1 _ rfl hv (tv_one _) (by decide) (by decide) (Nat.le_refl _) ?_))
 intro A' c' w2 hown2 g1 g2 hgr
 have hb2 : Below w.heap.size w w2 := Mem.below_grown (Below.refl _ _) hgr (Nat.le_refl _) (World.ownsRow_nil w w.heap.size 9 1) (Nat.le_refl _)
 go_wp2
 go_ret
 exact ⟨A', c', rfl, g1, g2, hown2, hb2⟩
theorem put_nil (g k : Nat) (x : List UInt8) (f : Value) (w : World) (h : w.cell? ⟨g, k, none⟩ = some (.slice none 0 0)) (hf : w.frozen? ⟨g, k, none⟩ = false) :
  Calls Tryz.prog 95 #[.pointer (some ⟨g, k, none⟩), .string (str x), .int .i64 8, f] w fun e w' => e = .returned (.int .i64 0) ∧ ∃ A c w1, 1 ≤ c ∧ c ≤ 9223372036854775807 ∧ Below w.heap.size w w1 ∧ w1.ownsRow w.heap.size 9 1 (.slice A 1 c) 1 (tv [x]) ∧ w' = w1.setCell ⟨g, k, none⟩ (.slice A 1 c) := by
 have hs := search_nil (.string (str x)) f w
 have hglt := World.block_lt_of_cell? w _ h
 simp only [] at hglt
 go_enter Tryz.func95, Tryz.ntmps95
 go_wp2_with fail
 refine hs.mono ?_
 rintro e w1 ⟨rfl, rfl⟩
 go_wp2_with fail
 refine (insert_nil w.heap.size x (w.alloc (.cells #[.string (str x)] 9)) (Blk.new w (tv [x]) 9)).mono ?_
 rintro e w2 ⟨A, c, rfl, g1, g2, hown, hb⟩
 have hb0 : Below w.heap.size w (w.alloc (.cells #[.string (str x)] 9)) := (Below.refl _ _).alloc (Nat.le_refl _) _
 have hb2 : Below w.heap.size w w2 := hb0.trans (hb.mono hb0.size)
 have k0 := (hb2.cell (p := ⟨g, k, none⟩) hglt).trans h
 have k1 := (hb2.frozen (p := ⟨g, k, none⟩) hglt).trans hf
 have hown2 := own_base hown (b' := w.heap.size) (by simp)
 go_wp2
 go_ret
 exact ⟨rfl, A, c, w2, g1, g2, hb2, hown2, rfl⟩
end Go.Proofs.YtmbpnkacggngkaaGreatDoor
namespace Go.Proofs.YtmbpnkacggngkaaGreatDoor
open Go.RowKit Mem Led
theorem quiet_of {P : Program} {f : FuncId} {args : Array Value} {w : World} {n : Nat} {v : Value}
  (h : Calls P f args (w.drewN n) fun e w' => e = .returned v ∧ w.drewN n = w') : Calls P f args (w.drewN n) fun e w'' => e = .returned v ∧ ∃ m, w'' = w.drewN m :=
 h.mono fun _ _ ⟨he, hm⟩ => ⟨he, n, hm.symm⟩
def lgCells (v : Value) : List Value := [.slice none 0 0, .slice none 0 0, v, .slice none 0 0, .slice none 0 0, .slice none 0 0]
theorem goneEntry_nil (gl : Nat) (ops : List Value) (v : Value) (w : World) (hb : Blk w gl (lgCells v) 30) :
  Calls Tryz.prog 43 #[.pointer (some ⟨gl, 0, none⟩), .agg ops.toArray] w fun e w' => e = .returned (.int .i64 7) ∧ Below w.heap.size w w' := by
 have h0 : ∀ o, (w.alloc o).cell? ⟨gl, 0, none⟩ = some (.slice none 0 0) := fun o => (hb.alloc o).cell 0
 have hg := fun o f => goneEntries_nil gl 0 f (w.alloc o) (h0 o)
 go_enter Tryz.func43, Tryz.ntmps43
 go_wp2_with fail
 refine (hg _ _).mono ?_
 rintro e w1 ⟨rfl, rfl⟩
 go_wp2
 go_ret
 exact ⟨rfl, (Below.refl _ _).alloc (Nat.le_refl _) _⟩
theorem evict_nil (gl : Nat) (ops : List Value) (v : Value) (w : World) (hb : Blk w gl (lgCells v) 30) :
  Calls Tryz.prog 49 #[.pointer (some ⟨gl, 0, none⟩), .agg ops.toArray] w fun e w' => e = .returned (.int .i64 7) ∧ Below w.heap.size w w' := by
 have h0 : ∀ o, (w.alloc o).cell? ⟨gl, 1, none⟩ = some (.slice none 0 0) := fun o => (hb.alloc o).cell 1
 have hg := fun o f => goneNodes_nil gl 1 f (w.alloc o) (h0 o)
 go_enter Tryz.func49, Tryz.ntmps49
 go_wp2_with fail
 refine (hg _ _).mono ?_
 rintro e w1 ⟨rfl, rfl⟩
 go_wp2
 go_ret
 exact ⟨rfl, (Below.refl _ _).alloc (Nat.le_refl _) _⟩
theorem contains_one (A : Option Addr) (c : Nat) (x : List UInt8) (w : World) (h : Ts w A 1 [x]) :
  Calls Tryz.prog 90 #[.slice A 1 c, .string (str x)] w fun e w' => e = .returned (.bool true) ∧ w' = w := by
 obtain ⟨b, off, rfl, hc⟩ := h.lit (i := 0) (by simp)
 refine (Tryz.slices_Contains_string b off 1 c [str x] (str x) w (by simp) (by omega) (fun j hj => ?_)).mono ?_
 ·have : j = 0 := by simpa using hj
  subst this
  exact hc
 ·rintro e w' ⟨rfl, rfl⟩
  exact ⟨by simp [Lib.containsS, Lib.idxOfS, Lib.idxFromS], rfl⟩
def Banned (gl : Nat) (x : List UInt8) (w : World) (e : Ending) (w' : World) : Prop :=
 e = .returned (.int .i64 0) ∧ ∃ A c, 1 ≤ c ∧ c ≤ 9223372036854775807 ∧ Blk w' gl (lgCells (.slice A 1 c)) 30 ∧ w'.ownsRow w.heap.size 9 1 (.slice A 1 c) 1 (tv [x]) ∧ Chg [gl] w w'
set_option maxRecDepth 100000 in
set_option maxHeartbeats 4000000 in
theorem ban_nil (gl : Nat) (ops : List Value) (x : List UInt8) (w : World) (hb : Blk w gl (lgCells (.slice none 0 0)) 30) (h24 : ops.length = 24) (hx : ops[2]? = some (tx x)) (ha : Ids.agent x = true) (hl : x.length ≤ 1000) :
  Calls Tryz.prog 47 #[.pointer (some ⟨gl, 0, none⟩), .agg ops.toArray] w (Banned gl x w) := by
 have hglt := hb.lt
 obtain ⟨W, hW⟩ : ∃ W, w.alloc (.cells ops.toArray 47) = W := ⟨_, rfl⟩
 have b0 : Blk W w.heap.size ops 47 := by rw [← hW]; exact Blk.new w ops _
 have b1 : Blk W gl (lgCells (.slice none 0 0)) 30 := by rw [← hW]; exact hb.alloc _
 have hbW : Below w.heap.size w W := by rw [← hW]; exact (Below.refl _ _).alloc (Nat.le_refl _) _
 have hag := agent_any x W (by omega)
 rw [ha] at hag
 have k2 : (w.alloc (.cells ops.toArray 47)).cell? ⟨w.heap.size, 2, none⟩ = some (.string (str x)) := by rw [hW]; exact (b0.cell 2).trans hx
 have HW := Lib.hid hW
 clear hW
 go_enter Tryz.func47, Tryz.ntmps47
 go_wp2_with fail
 rw [HW.out]
 refine hag.mono ?_
 rintro e w1 ⟨rfl, hb1⟩
 have c0 := b0.below hb1
 have c1 := b1.below hb1
 have m2 : w1.cell? ⟨w.heap.size, 2, none⟩ = some (.string (str x)) := (c0.cell 2).trans hx
 have m3 : w1.cell? ⟨gl, 2, none⟩ = some (.slice none 0 0) := c1.cell 2
 have hz1 := hb1.size
 have hct := fun W => Tryz.slices_Contains_string_empty none 0 (str x) W
 have hbw1 : Below w.heap.size w w1 := hbW.trans (hb1.mono hbW.size)
 go_wp2_with fail
 go_quiet ((go_at_call 90; exact quiet_of ((hct _).mono fun e w' ⟨he, hw⟩ => ⟨he, hw.symm⟩)))
 obtain ⟨wy, hwy⟩ : ∃ wy, w1.drewN nq = wy := ⟨_, rfl⟩
 have d0 : Blk wy w.heap.size ops 47 := by rw [← hwy]; exact c0.drewN nq
 have d1 : Blk wy gl (lgCells (.slice none 0 0)) 30 := by rw [← hwy]; exact c1.drewN nq
 have hby : Below w.heap.size w wy := by rw [← hwy]; exact ⟨hbw1.os, hbw1.tape, hbw1.output, by simpa using hbw1.size, fun i hi => by simpa using hbw1.block i hi⟩
 rw [hwy]
 clear hwy c0 c1 m2 m3 hbw1 hb1 hz1 hct
 have e2 : wy.cell? ⟨w.heap.size, 2, none⟩ = some (.string (str x)) := (d0.cell 2).trans hx
 have hput := fun f => put_nil gl 2 x f wy.drew (d1.cell 2) (d1.froz 2)
 go_wp2_with fail
 go_region_with (go_at_call 95; refine (hput _).mono ?_; rintro e w2 ⟨rfl, A, c, w3, g1, g2, hb3, hown, rfl⟩)
 obtain ⟨W3, hW3⟩ : ∃ W3, w3.setCell ⟨gl, 2, none⟩ (.slice A 1 c) = W3 := ⟨_, rfl⟩
 have hby2 : Below w.heap.size w w3 := hby.drew.trans (hb3.mono hby.size)
 have f0 : Blk W3 w.heap.size ops 47 := by rw [← hW3]; exact (d0.drew.below hb3).set_ne (p := ⟨gl, 2, none⟩) (by simp; omega) _
 have f1 : Blk W3 gl (lgCells (.slice A 1 c)) 30 := by
  have := (d1.drew.below hb3).set 2 (.slice A 1 c)
  rw [← hW3]
  exact this
 have hown3 : W3.ownsRow w.heap.size 9 1 (.slice A 1 c) 1 (tv [x]) := by
  rw [← hW3]
  exact ownsRow_setCell_below (own_base hown hby.size) hglt _
 have hc3 : Chg [gl] w W3 := by rw [← hW3]; exact (Chg.of_below hby2).setCell (.inl (by simp)) _
 rw [hW3]
 clear hW3 hown hb3 d0 d1 hput hby2 e2
 have hld := load_op f0 h24
 have hev := evict_nil gl ops (.slice A 1 c) W3 f1
 go_wp2_with fail
 refine hev.mono ?_
 rintro e w4 ⟨rfl, hb4⟩
 go_wp2
 go_ret
 exact ⟨rfl, A, c, g1, g2, f1.below hb4, own_below hown3 hb4 (Nat.le_refl _), hc3.and_below hb4⟩
set_option maxRecDepth 100000 in
set_option maxHeartbeats 4000000 in
theorem ban_again (gl : Nat) (ops : List Value) (x : List UInt8) (A : Option Addr) (c : Nat) (w : World) (hb : Blk w gl (lgCells (.slice A 1 c)) 30) (hx : ops[2]? = some (tx x)) (ha : Ids.agent x = true) (hl : x.length ≤ 1000) (hts : Ts w A 1 [x]) :
  Calls Tryz.prog 47 #[.pointer (some ⟨gl, 0, none⟩), .agg ops.toArray] w fun e w' => e = .returned (.int .i64 8) ∧ Below w.heap.size w w' := by
 have hglt := hb.lt
 obtain ⟨W, hW⟩ : ∃ W, w.alloc (.cells ops.toArray 47) = W := ⟨_, rfl⟩
 have b0 : Blk W w.heap.size ops 47 := by rw [← hW]; exact Blk.new w ops _
 have b1 : Blk W gl (lgCells (.slice A 1 c)) 30 := by rw [← hW]; exact hb.alloc _
 have hbW : Below w.heap.size w W := by rw [← hW]; exact (Below.refl _ _).alloc (Nat.le_refl _) _
 have hag := agent_any x W (by omega)
 rw [ha] at hag
 have k2 : (w.alloc (.cells ops.toArray 47)).cell? ⟨w.heap.size, 2, none⟩ = some (.string (str x)) := by rw [hW]; exact (b0.cell 2).trans hx
 have HW := Lib.hid hW
 clear hW
 go_enter Tryz.func47, Tryz.ntmps47
 go_wp2_with fail
 rw [HW.out]
 refine hag.mono ?_
 rintro e w1 ⟨rfl, hb1⟩
 have c0 := b0.below hb1
 have c1 := b1.below hb1
 have m2 : w1.cell? ⟨w.heap.size, 2, none⟩ = some (.string (str x)) := (c0.cell 2).trans hx
 have m3 : w1.cell? ⟨gl, 2, none⟩ = some (.slice A 1 c) := c1.cell 2
 have hbw1 : Below w.heap.size w w1 := hbW.trans (hb1.mono hbW.size)
 have hct := fun n => contains_one A c x (w1.drewN n) (Ts.below (Ts.below hts hbw1) ⟨rfl, rfl, rfl, Nat.le_refl _, fun _ _ => rfl⟩)
 go_wp2_with fail
 go_quiet ((go_at_call 90; exact quiet_of ((hct _).mono fun e w' ⟨he, hw⟩ => ⟨he, hw.symm⟩)))
 have hby : Below w.heap.size w (w1.drewN nq) := ⟨hbw1.os, hbw1.tape, hbw1.output, by simpa using hbw1.size, fun i hi => by simpa using hbw1.block i hi⟩
 go_wp2
 go_ret
 exact ⟨rfl, hby⟩
end Go.Proofs.YtmbpnkacggngkaaGreatDoor
end
section
namespace Go.Proofs.YtmbpnkacggngkaaGreatDoor
open Go.RowKit Mem Led
theorem size_ledger : (Tryz.prog.info? 30).map (·.size) = some 6 := by kernel_rfl
set_option maxRecDepth 100000 in
set_option maxHeartbeats 4000000 in
theorem clone_nil (w : World) : Calls Tryz.prog 27 #[.agg (lgCells (.slice none 0 0)).toArray] w fun e w' => e = .returned (.agg (lgCells (.slice none 0 0)).toArray) ∧ Below w.heap.size w w' := by
 unfold lgCells
 go_enter Tryz.func27, Tryz.ntmps27
 go_wp2_with fail
 go_region_held3 (fun w' => w'.cell? ⟨w.heap.size, 0, none⟩ = some (.slice none 0 0) ∧ w'.cell? ⟨w.heap.size, 1, none⟩ = some (.slice none 0 0) ∧ w'.cell? ⟨w.heap.size, 2, none⟩ = some (.slice none 0 0)) (go_keep) (first | (go_at_call 57; refine (cloneEntries_nil _).mono ?_; rintro e w1 ⟨rfl, rfl⟩) | (go_at_call 58; refine (cloneNodes_nil _).mono ?_; rintro e w1 ⟨rfl, rfl⟩) | (go_at_call 28; refine (cloneTexts_nil _).mono ?_; rintro e w1 ⟨rfl, rfl⟩))
 go_wp2_with fail
 go_region_held3 (fun w' => w'.cell? ⟨w.heap.size, 3, none⟩ = some (.slice none 0 0) ∧ w'.cell? ⟨w.heap.size, 4, none⟩ = some (.slice none 0 0) ∧ w'.cell? ⟨w.heap.size, 5, none⟩ = some (.slice none 0 0)) (go_keep) (first | (go_at_call 59; refine (cloneJoins_nil _).mono ?_; rintro e w1 ⟨rfl, rfl⟩) | (go_at_call 60; refine (cloneKeys_nil _).mono ?_; rintro e w1 ⟨rfl, rfl⟩) | (go_at_call 61; refine (cloneBundles_nil _).mono ?_; rintro e w1 ⟨rfl, rfl⟩))
 go_wp2
 go_loopw [3, 32] (fun _ i wr => i = .int .i64 0 ∧ wr = (((w.alloc (.cells #[.slice none 0 0, .slice none 0 0, .slice none 0 0, .slice none 0 0, .slice none 0 0, .slice none 0 0] 30)).alloc (.cells #[.slice none 0 0, .slice none 0 0, .slice none 0 0, .slice none 0 0, .slice none 0 0, .slice none 0 0] 30)).drew).drew) (fun _ _ _ => 0)
 case atStart => exact ⟨rfl, rfl⟩
 case round =>
  obtain ⟨rfl, rfl⟩ := hrel
  go_wp2
  go_loopw [4, 51] (fun _ i wr => i = .int .i64 0 ∧ wr = (((w.alloc (.cells #[.slice none 0 0, .slice none 0 0, .slice none 0 0, .slice none 0 0, .slice none 0 0, .slice none 0 0] 30)).alloc (.cells #[.slice none 0 0, .slice none 0 0, .slice none 0 0, .slice none 0 0, .slice none 0 0, .slice none 0 0] 30)).drew).drew) (fun _ _ _ => 0)
  case atStart => exact ⟨rfl, rfl⟩
  case round =>
   obtain ⟨rfl, rfl⟩ := hrel
   go_wp2
   have hB := Blk.new (w.alloc (.cells (lgCells (.slice none 0 0)).toArray 30)) (lgCells (.slice none 0 0)) 30
   rw [show (w.alloc (.cells (lgCells (.slice none 0 0)).toArray 30)).heap.size = w.heap.size + 1 by simp] at hB
   have hH := (hB.drew.drew).has (n := 6) rfl
   have hA := (hB.drew.drew).arr (n := 6) rfl
   refine bodyPost_ret (results_arr (P := Tryz.prog) Tryz.results27 _ _ (w.heap.size + 1) 0 6 _ rfl Tryz.underlying30 rfl size_ledger hH) rfl ?_
   exact ⟨congrArg (fun a => Ending.returned (Value.agg a)) hA, (((Below.refl _ _).alloc (Nat.le_refl _) _).alloc (by simp) _).drew.drew⟩
theorem cloneText_one (A : Option Addr) (c : Nat) (x : List UInt8) (w : World) (h : Ts w A 1 [x]) :
  Calls Tryz.prog 28 #[.slice A 1 c] w (fun e w' => ∃ A' c', e = .returned (.slice A' 1 c') ∧ 1 ≤ c' ∧ c' ≤ 9223372036854775807 ∧ w'.ownsRow w.heap.size 9 1 (.slice A' 1 c') 1 (tv [x]) ∧ Below w.heap.size w w') := by
 obtain ⟨b, off, rfl, hc⟩ := h.lit (i := 0) (by simp)
 refine (Tryz.slices_Clone_string b off 1 c [str x] w (by simp) (by omega) (fun j hj => ?_)).mono ?_
 ·have : j = 0 := by simpa using hj
  subst this
  exact hc
 ·rintro e w' ⟨v', rfl, h1, _, h2⟩
  obtain ⟨A', c', rfl, g1, g2⟩ := own_form h1
  exact ⟨A', c', rfl, g1, g2, h1, h2⟩
def loadLg (x : Value) : Sem Value := Instr.loadAt 30 x
def storeLg (x v : Value) : Sem Unit := Instr.storeAt 30 x v
theorem named_load_lg (x : Value) : Instr.loadAt 30 x = loadLg x := rfl
theorem named_store_lg (x v : Value) : Instr.storeAt 30 x v = storeLg x v := rfl
attribute [go_sem ↓] named_load_lg named_store_lg
theorem load_lg {w : World} {g : Nat} {cs : List Value} {t : TypeId} (h : Blk w g cs t) (hn : cs.length = 6) : (loadLg (.pointer (some ⟨g, 0, none⟩))).run Tryz.prog w = .ok (.agg cs.toArray) w := by
 have := run_load_arr (P := Tryz.prog) w 30 g 0 6 _ Tryz.underlying30 rfl size_ledger (h.has hn)
 rw [h.arr hn] at this
 exact this
theorem store_lg {w : World} {g : Nat} {cs vs : List Value} {t : TypeId} (h : Blk w g cs t) (hn : cs.length = 6) (hv : vs.length = 6) (h1 : ∀ v ∈ vs, v.oneCell' = true) :
  (storeLg (.pointer (some ⟨g, 0, none⟩)) (.agg vs.toArray)).run Tryz.prog w = .ok () (w.setCells g 0 vs) ∧ Blk (w.setCells g 0 vs) g vs t := by
 have h2 := run_store_arr (P := Tryz.prog) w 30 g 0 6 size_ledger vs.toArray ⟨by simpa using hv, by simpa using h1⟩ (h.has hn) (fun j _ => h.froz _)
 have h3 := setCells_blk vs w g 0 cs t h (by omega)
 simp [hv, ← hn] at h3
 exact ⟨h2, h3⟩
theorem lgCells_one (A : Option Addr) (n c : Nat) : ∀ v ∈ lgCells (.slice A n c), v.oneCell' = true := by
 intro v hv
 simp only [lgCells, List.mem_cons, List.not_mem_nil, or_false] at hv
 rcases hv with rfl | rfl | rfl | rfl | rfl | rfl <;> rfl
theorem own_setCells : ∀ (vs : List Value) {w : World} {base n g k : Nat} {v : Value} {e : TypeId} {xs : List Value}, w.ownsRow base e 1 v n xs → g < base → (w.setCells g k vs).ownsRow base e 1 v n xs
 | [], _, _, _, _, _, _, _, _, h, _ => h
 | u :: vs, _, _, _, _, _, _, _, _, h, hg => own_setCells vs (ownsRow_setCell_below h hg u) hg
def Nil3 (B : Nat) (w : World) : Prop := w.cell? ⟨B, 3, none⟩ = some (.slice none 0 0) ∧ w.cell? ⟨B, 4, none⟩ = some (.slice none 0 0) ∧ w.cell? ⟨B, 5, none⟩ = some (.slice none 0 0)
theorem Nil3.set {B : Nat} {w : World} (h : Nil3 B w) (k : Nat) : Nil3 B (w.setCell ⟨B, k, none⟩ (.slice none 0 0)) := by
 obtain ⟨h3, h4, h5⟩ := h
 have key : ∀ j, w.cell? ⟨B, j, none⟩ = some (.slice none 0 0) → (w.setCell ⟨B, k, none⟩ (.slice none 0 0)).cell? ⟨B, j, none⟩ = some (.slice none 0 0) := fun j hj => by
  by_cases e : k = j
  ·subst e
   exact setc_same _ _ _ _ _ hj
  ·exact (setc_ne _ _ _ _ _ e).trans hj
 exact ⟨key 3 h3, key 4 h4, key 5 h5⟩
def Copied (x : List UInt8) (w : World) (e : Ending) (w' : World) : Prop :=
 ∃ A' c', e = .returned (.agg (lgCells (.slice A' 1 c')).toArray) ∧ 1 ≤ c' ∧ c' ≤ 9223372036854775807 ∧ w'.ownsRow w.heap.size 9 1 (.slice A' 1 c') 1 (tv [x]) ∧ Below w.heap.size w w'
set_option maxRecDepth 100000 in
set_option maxHeartbeats 4000000 in
theorem clone_one (A : Option Addr) (c : Nat) (x : List UInt8) (w : World) (h : Ts w A 1 [x]) : Calls Tryz.prog 27 #[.agg (lgCells (.slice A 1 c)).toArray] w (Copied x w) := by
 obtain ⟨W, hW⟩ : ∃ W, ((w.alloc (.cells (lgCells (.slice A 1 c)).toArray 30)).alloc (.cells (lgCells (.slice none 0 0)).toArray 30)) = W := ⟨_, rfl⟩
 have b0 : Blk W w.heap.size (lgCells (.slice A 1 c)) 30 := by rw [← hW]; exact (Blk.new _ _ _).alloc _
 have b1 : Blk W (w.heap.size + 1) (lgCells (.slice none 0 0)) 30 := by
  have := Blk.new (w.alloc (.cells (lgCells (.slice A 1 c)).toArray 30)) (lgCells (.slice none 0 0)) 30
  rw [← hW]
  simpa using this
 have hbW : Below w.heap.size w W := by rw [← hW]; exact ((Below.refl _ _).alloc (Nat.le_refl _) _).alloc (by simp) _
 have hzW : W.heap.size = w.heap.size + 2 := by rw [← hW]; simp
 have hcl := cloneText_one A c x W.drew (h.below hbW.drew)
 have HW := Lib.hid hW
 clear hW
 have k0 : W.cell? ⟨w.heap.size, 0, none⟩ = some (.slice none 0 0) := b0.cell 0
 have k1 : W.cell? ⟨w.heap.size, 1, none⟩ = some (.slice none 0 0) := b0.cell 1
 have k2 : W.cell? ⟨w.heap.size, 2, none⟩ = some (.slice A 1 c) := b0.cell 2
 unfold lgCells at HW ⊢
 go_enter Tryz.func27, Tryz.ntmps27
 go_upto_region 1 with fail
 rw [HW.out]
 go_cut [] (fun wx => ∃ A' c', 1 ≤ c' ∧ c' ≤ 9223372036854775807 ∧ Blk wx w.heap.size (lgCells (.slice A' 1 c')) 30 ∧ Blk wx (w.heap.size + 1) (lgCells (.slice none 0 0)) 30 ∧ wx.ownsRow (w.heap.size + 2) 9 1 (.slice A' 1 c') 1 (tv [x]) ∧ Below w.heap.size w wx)
 case first =>
  go_region_with (first | (go_at_call 57; refine (cloneEntries_nil _).mono ?_; rintro e w1 ⟨rfl, rfl⟩) | (go_at_call 58; refine (cloneNodes_nil _).mono ?_; rintro e w1 ⟨rfl, rfl⟩) | (go_at_call 28; refine hcl.mono ?_; rintro e w1 ⟨A', c', rfl, g1, g2, hown, hb1⟩; have r0 := b0.drew.below hb1; have q0 := r0.cell 0; have q1 := r0.cell 1; have q2 := r0.cell 2; have f0 := r0.froz 0; have f1 := r0.froz 1; have f2 := r0.froz 2; simp only [List.getElem?_cons_zero, List.getElem?_cons_succ, lgCells] at q0 q1 q2))
  all_goals
   have hbw1 : Below w.heap.size w w1 := hbW.drew.trans (hb1.mono hbW.size)
   have s1 := ((r0.set 0 (.slice none 0 0)).set 1 (.slice none 0 0)).set 2 (.slice A' 1 c')
   have s2 := (((b1.drew.below hb1).set_ne (p := ⟨w.heap.size, 0, none⟩) (by simp) (.slice none 0 0)).set_ne (p := ⟨w.heap.size, 1, none⟩) (by simp) (.slice none 0 0)).set_ne (p := ⟨w.heap.size, 2, none⟩) (by simp) (.slice A' 1 c')
   have s3 := ((hbw1.setCell (p := ⟨w.heap.size, 0, none⟩) (Nat.le_refl _) (.slice none 0 0)).setCell (p := ⟨w.heap.size, 1, none⟩) (Nat.le_refl _) (.slice none 0 0)).setCell (p := ⟨w.heap.size, 2, none⟩) (Nat.le_refl _) (.slice A' 1 c')
   have s4 := ownsRow_setCell_below (ownsRow_setCell_below (ownsRow_setCell_below (own_base hown (b' := w.heap.size + 2) (by rw [← hzW]; exact Nat.le_refl _)) (a := ⟨w.heap.size, 0, none⟩) (by simp) (.slice none 0 0)) (a := ⟨w.heap.size, 1, none⟩) (by simp) (.slice none 0 0)) (a := ⟨w.heap.size, 2, none⟩) (by simp) (.slice A' 1 c')
   go_wp2_with fail
   go_meet
   case rel => exact ⟨A', c', g1, g2, s1, s2, s4, s3⟩
 case rest =>
  obtain ⟨A', c', g1, g2, s1, s2, s4, s3⟩ := hcut
  have t3 : wc.cell? ⟨w.heap.size, 3, none⟩ = some (.slice none 0 0) := s1.cell 3
  have t4 : wc.cell? ⟨w.heap.size, 4, none⟩ = some (.slice none 0 0) := s1.cell 4
  have t5 : wc.cell? ⟨w.heap.size, 5, none⟩ = some (.slice none 0 0) := s1.cell 5
  have n0 : Nil3 w.heap.size wc := ⟨t3, t4, t5⟩
  have n1 : Hid (Nil3 w.heap.size (wc.setCell ⟨w.heap.size, 3, none⟩ (.slice none 0 0))) ∧ Hid (Nil3 w.heap.size ((wc.setCell ⟨w.heap.size, 3, none⟩ (.slice none 0 0)).setCell ⟨w.heap.size, 4, none⟩ (.slice none 0 0))) ∧ Hid (Nil3 w.heap.size (((wc.setCell ⟨w.heap.size, 3, none⟩ (.slice none 0 0)).setCell ⟨w.heap.size, 4, none⟩ (.slice none 0 0)).setCell ⟨w.heap.size, 5, none⟩ (.slice none 0 0))) := ⟨Lib.hid (n0.set 3), Lib.hid ((n0.set 3).set 4), Lib.hid (((n0.set 3).set 4).set 5)⟩
  have z3 : wc.frozen? ⟨w.heap.size, 3, none⟩ = false := s1.froz 3
  have z4 : wc.frozen? ⟨w.heap.size, 4, none⟩ = false := s1.froz 4
  have z5 : wc.frozen? ⟨w.heap.size, 5, none⟩ = false := s1.froz 5
  go_wp2_with fail
  go_region_held3 (fun w' => w'.cell? ⟨w.heap.size, 3, none⟩ = some (.slice none 0 0) ∧ w'.cell? ⟨w.heap.size, 4, none⟩ = some (.slice none 0 0) ∧ w'.cell? ⟨w.heap.size, 5, none⟩ = some (.slice none 0 0)) (first | exact n1.1.out | exact n1.2.1.out | exact n1.2.2.out | go_keep) (first | (go_at_call 59; refine (cloneJoins_nil _).mono ?_; rintro e w1 ⟨rfl, rfl⟩) | (go_at_call 60; refine (cloneKeys_nil _).mono ?_; rintro e w1 ⟨rfl, rfl⟩) | (go_at_call 61; refine (cloneBundles_nil _).mono ?_; rintro e w1 ⟨rfl, rfl⟩))
  obtain ⟨wz, hwz⟩ : ∃ wz, (((wc.setCell ⟨w.heap.size, 3, none⟩ (.slice none 0 0)).setCell ⟨w.heap.size, 4, none⟩ (.slice none 0 0)).setCell ⟨w.heap.size, 5, none⟩ (.slice none 0 0)).drew = wz := ⟨_, rfl⟩
  have u1 : Blk wz w.heap.size (lgCells (.slice A' 1 c')) 30 := by
   rw [← hwz]
   exact (((s1.set 3 (.slice none 0 0)).set 4 (.slice none 0 0)).set 5 (.slice none 0 0)).drew
  have u2 : Blk wz (w.heap.size + 1) (lgCells (.slice none 0 0)) 30 := by
   rw [← hwz]
   exact (((s2.set_ne (p := ⟨w.heap.size, 3, none⟩) (by simp) _).set_ne (p := ⟨w.heap.size, 4, none⟩) (by simp) _).set_ne (p := ⟨w.heap.size, 5, none⟩) (by simp) _).drew
  have u4 : wz.ownsRow (w.heap.size + 2) 9 1 (.slice A' 1 c') 1 (tv [x]) := by
   rw [← hwz]
   exact (ownsRow_setCell_below (ownsRow_setCell_below (ownsRow_setCell_below s4 (a := ⟨w.heap.size, 3, none⟩) (by simp) _) (a := ⟨w.heap.size, 4, none⟩) (by simp) _) (a := ⟨w.heap.size, 5, none⟩) (by simp) _).drew
  have u3 : Below w.heap.size w wz := by
   rw [← hwz]
   exact (((s3.setCell (p := ⟨w.heap.size, 3, none⟩) (Nat.le_refl _) _).setCell (p := ⟨w.heap.size, 4, none⟩) (Nat.le_refl _) _).setCell (p := ⟨w.heap.size, 5, none⟩) (Nat.le_refl _) _).drew
  rw [hwz]
  clear hwz n0 n1 s1 s2 s3 s4 t3 t4 t5 z3 z4 z5 hcl b0 b1 k0 k1 k2 HW
  have v0 : wz.cell? ⟨w.heap.size, 0, none⟩ = some (.slice none 0 0) := u1.cell 0
  have v5 : wz.cell? ⟨w.heap.size, 5, none⟩ = some (.slice none 0 0) := u1.cell 5
  have hld := load_lg u1 rfl
  obtain ⟨hst, hSt⟩ := store_lg u2 rfl (vs := lgCells (.slice A' 1 c')) rfl (lgCells_one _ _ _)
  obtain ⟨wf, hwf⟩ : ∃ wf, wz.setCells (w.heap.size + 1) 0 (lgCells (.slice A' 1 c')) = wf := ⟨_, rfl⟩
  have hof : wf.ownsRow (w.heap.size + 2) 9 1 (.slice A' 1 c') 1 (tv [x]) := by rw [← hwf]; exact own_setCells _ u4 (by omega)
  have hbf : Below w.heap.size w wf := by
   rw [← hwf]
   exact ((Chg.of_below (S := []) u3).setCells _ (.inr (by omega))).below (by simp)
  rw [hwf] at hst hSt
  have hH := hSt.has (n := 6) rfl
  have hA := hSt.arr (n := 6) rfl
  clear hwf u1 u2 u4 u3 hSt
  generalize hCS : (lgCells (.slice A' 1 c')).toArray = CS at *
  have HCS := Lib.hid hCS
  clear hCS
  go_wp2
  go_loopw [3, 32] (fun _ i wr => i = .int .i64 0 ∧ wr = wz) (fun _ _ _ => 0)
  case atStart => exact ⟨rfl, rfl⟩
  case round =>
   obtain ⟨rfl, rfl⟩ := hrel
   go_wp2
   go_loopw [4, 51] (fun _ i wr' => i = .int .i64 0 ∧ wr' = wr) (fun _ _ _ => 0)
   case atStart => exact ⟨rfl, rfl⟩
   case round =>
    obtain ⟨rfl, rfl⟩ := hrel
    go_wp2
    refine bodyPost_ret (results_arr (P := Tryz.prog) Tryz.results27 _ _ (w.heap.size + 1) 0 6 _ rfl Tryz.underlying30 rfl size_ledger hH) rfl ?_
    exact ⟨A', c', by rw [hA, HCS.out], g1, g2, own_base hof (by omega), hbf⟩
end Go.Proofs.YtmbpnkacggngkaaGreatDoor
end
section
namespace Go.Proofs.YtmbpnkacggngkaaGreatDoor
open Go.RowKit Mem
def ents : Nat → List (Int × Value) → List MapEntry
 | _, [] => []
 | i, (k, v) :: r => { key := .int .i64 k, val := v, born := i } :: ents (i + 1) r
theorem ents_snoc : ∀ (i : Nat) (l : List (Int × Value)) (k : Int) (v : Value), ents i (l ++ [(k, v)]) = ents i l ++ [{ key := .int .i64 k, val := v, born := i + l.length }]
 | i, [], k, v => by simp [ents]
 | i, (k', v') :: r, k, v => by
  have ih := ents_snoc (i + 1) r k v
  simp only [List.cons_append, ents, ih, List.length_cons]
  congr 4
  omega
theorem findNow_ents (k : Int) : ∀ (i j : Nat) (l : List (Int × Value)), Instr.findNow (.int .i64) (.int .i64 k) (ents i l) j = some ((l.findIdx? fun p => k == p.1).bind fun n => l[n]?.map fun p => (j + n, p.2))
 | i, j, [] => rfl
 | i, j, (k', v') :: r => by
  have ih := findNow_ents k (i + 1) (j + 1) r
  simp only [ents, Instr.findNow, Instr.sameNow, if_true]
  by_cases h : k = k'
  ·subst h
   simp [List.findIdx?_cons]
  ·have hb : (k == k') = false := by simp [h]
   simp only [hb, ih, List.findIdx?_cons]
   congr 1
   cases hq : List.findIdx? (fun p : Int × Value => k == p.1) r with
   | none => simp
   | some n => simp [Nat.add_assoc, Nat.add_comm 1 n]
def mobj (l : List (Int × Value)) : Obj := .map (ents 0 l).toArray l.length
theorem push_set {α : Type} (a : Array α) (x y : α) : (a.push x).setIfInBounds a.size y = a.push y := by
 apply Array.ext
 ·simp
 ·intro i h1 h2
  have hi : i < a.size + 1 := by simpa using h2
  rw [Array.getElem_setIfInBounds (by simpa using hi)]
  by_cases h : a.size = i
  ·subst h
   simp
  ·rw [if_neg h, Array.getElem_push_lt (by omega), Array.getElem_push_lt (by omega)]
theorem run_insert_last {P : Program} (w : World) (l : List (Int × Value)) (k : Int) (v : Value) (t kt et : TypeId) (ht : P.underlying t = some (.map kt et)) (hk : P.underlying kt = some (.int .i64)) (hn : l.findIdx? (fun p => k == p.1) = none) :
  (Instr.mapUpdate t (.map (some w.heap.size)) (.int .i64 k) v).run P (w.alloc (mobj l)) = .ok () (w.alloc (mobj (l ++ [(k, v)]))) := by
 have hb : (w.alloc (mobj l)).heap[w.heap.size]? = some (.map (ents 0 l).toArray l.length) := heap_alloc_new w _
 have h1 := Go.MapKept.run_getObj_map (P := P) hb
 have h2 := Go.MapKept.run_checkKey (P := P) (w := w.alloc (mobj l)) hk (k := .int .i64 k) rfl false 9999
 have hf : Instr.findNow (.int .i64) (.int .i64 k) (ents 0 l) 0 = some none := by rw [findNow_ents, hn]; rfl
 have h3 := Go.MapKept.run_findKey (P := P) (w := w.alloc (mobj l)) hk hf
 have h4 := Go.MapKept.run_setObj_map (P := P) (.map ((ents 0 l).toArray.push { key := .int .i64 k, val := v, born := l.length }) (l.length + 1)) hb
 have he : { (w.alloc (mobj l)) with heap := (w.alloc (mobj l)).heap.setIfInBounds w.heap.size (.map ((ents 0 l).toArray.push { key := .int .i64 k, val := v, born := l.length }) (l.length + 1)) } = w.alloc (mobj (l ++ [(k, v)])) := by
  unfold mobj
  rw [ents_snoc]
  show ({ heap := (w.heap.push _).setIfInBounds w.heap.size _, tape := w.tape, drawn := w.drawn, os := w.os, output := w.output } : World) = _
  rw [push_set]
  simp only [Nat.zero_add, List.push_toArray, List.length_append, List.length_cons, List.length_nil]
  rfl
 rw [he] at h4
 unfold Instr.mapUpdate
 simp only [Sem.run_bind, run_underlying ht, Result.andThen_ok, h1, h2, h3, h4]
theorem run_look {P : Program} (w : World) (r : Nat) (l : List (Int × Value)) (k : Int) (t kt et : TypeId) (z : Value) (ht : P.underlying t = some (.map kt et)) (hk : P.underlying kt = some (.int .i64)) (hz : (zeroValue et).run P w = .ok z w) (hr : w.heap[r]? = some (mobj l)) :
  (Instr.lookup t (.map (some r)) (.int .i64 k) false).run P w = .ok (((l.findIdx? fun p => k == p.1).bind fun n => l[n]?.map fun p => p.2).getD z) w := by
 have h1 := Go.MapKept.run_getObj_map (P := P) (w := w) (r := r) (es := (ents 0 l).toArray) (clock := l.length) hr
 have h2 := Go.MapKept.run_checkKey (P := P) (w := w) hk (k := .int .i64 k) rfl (ents 0 l).toArray.isEmpty 9999
 have h3 := Go.MapKept.run_findKey (P := P) (w := w) hk (findNow_ents k 0 0 l)
 unfold Instr.lookup
 simp only [Sem.run_bind, run_underlying ht, Result.andThen_ok, h1, h2, h3, Sem.run_pure]
 cases hq : List.findIdx? (fun p : Int × Value => k == p.1) l with
 | none => simp [hz]
 | some n =>
  cases hn : l[n]? with
  | none => simp [hz, hn]
  | some p => simp [hn]
end Go.Proofs.YtmbpnkacggngkaaGreatDoor
namespace Go.Proofs.YtmbpnkacggngkaaGreatDoor
open Go.RowKit Mem
def doL : List (Int × Value) := [(1, .func (.func 42) #[] #[]), (2, .func (.func 43) #[] #[]), (3, .func (.func 44) #[] #[]), (4, .func (.func 45) #[] #[]), (5, .func (.func 46) #[] #[]), (6, .func (.func 47) #[] #[]), (7, .func (.func 48) #[] #[]), (8, .func (.func 49) #[] #[]), (9, .func (.func 50) #[] #[]), (10, .func (.func 51) #[] #[]), (11, .func (.func 52) #[] #[]), (12, .func (.func 53) #[] #[]), (13, .func (.func 54) #[] #[]), (14, .func (.func 55) #[] #[]), (101, .func (.func 56) #[] #[]), (103, .func (.func 56) #[] #[]), (105, .func (.func 56) #[] #[]), (106, .func (.func 56) #[] #[]), (109, .func (.func 56) #[] #[]), (112, .func (.func 56) #[] #[])]
def mo (j : Nat) : Obj := mobj (doL.take j)
set_option maxRecDepth 100000 in
set_option maxHeartbeats 2000000 in
theorem doers_any (w : World) : Calls Tryz.prog 26 #[] w fun e w' => e = .returned (.map (some w.heap.size)) ∧ w' = w.alloc (mo 20) := by
 have hm := @run_makeMap Tryz.prog
 have i0 : (Instr.mapUpdate 73 (.map (some w.heap.size)) (.int .i64 1) (.func (.func 42) #[] #[])).run Tryz.prog (w.alloc (.map #[] 0)) = .ok () (w.alloc (mo 1)) := run_insert_last (P := Tryz.prog) w (doL.take 0) 1 (.func (.func 42) #[] #[]) _ _ _ Tryz.underlying73 Tryz.underlying3 rfl
 have i1 : (Instr.mapUpdate 73 (.map (some w.heap.size)) (.int .i64 2) (.func (.func 43) #[] #[])).run Tryz.prog (w.alloc (mo 1)) = .ok () (w.alloc (mo 2)) := run_insert_last (P := Tryz.prog) w (doL.take 1) 2 (.func (.func 43) #[] #[]) _ _ _ Tryz.underlying73 Tryz.underlying3 rfl
 have i2 : (Instr.mapUpdate 73 (.map (some w.heap.size)) (.int .i64 3) (.func (.func 44) #[] #[])).run Tryz.prog (w.alloc (mo 2)) = .ok () (w.alloc (mo 3)) := run_insert_last (P := Tryz.prog) w (doL.take 2) 3 (.func (.func 44) #[] #[]) _ _ _ Tryz.underlying73 Tryz.underlying3 rfl
 have i3 : (Instr.mapUpdate 73 (.map (some w.heap.size)) (.int .i64 4) (.func (.func 45) #[] #[])).run Tryz.prog (w.alloc (mo 3)) = .ok () (w.alloc (mo 4)) := run_insert_last (P := Tryz.prog) w (doL.take 3) 4 (.func (.func 45) #[] #[]) _ _ _ Tryz.underlying73 Tryz.underlying3 rfl
 have i4 : (Instr.mapUpdate 73 (.map (some w.heap.size)) (.int .i64 5) (.func (.func 46) #[] #[])).run Tryz.prog (w.alloc (mo 4)) = .ok () (w.alloc (mo 5)) := run_insert_last (P := Tryz.prog) w (doL.take 4) 5 (.func (.func 46) #[] #[]) _ _ _ Tryz.underlying73 Tryz.underlying3 rfl
 have i5 : (Instr.mapUpdate 73 (.map (some w.heap.size)) (.int .i64 6) (.func (.func 47) #[] #[])).run Tryz.prog (w.alloc (mo 5)) = .ok () (w.alloc (mo 6)) := run_insert_last (P := Tryz.prog) w (doL.take 5) 6 (.func (.func 47) #[] #[]) _ _ _ Tryz.underlying73 Tryz.underlying3 rfl
 have i6 : (Instr.mapUpdate 73 (.map (some w.heap.size)) (.int .i64 7) (.func (.func 48) #[] #[])).run Tryz.prog (w.alloc (mo 6)) = .ok () (w.alloc (mo 7)) := run_insert_last (P := Tryz.prog) w (doL.take 6) 7 (.func (.func 48) #[] #[]) _ _ _ Tryz.underlying73 Tryz.underlying3 rfl
 have i7 : (Instr.mapUpdate 73 (.map (some w.heap.size)) (.int .i64 8) (.func (.func 49) #[] #[])).run Tryz.prog (w.alloc (mo 7)) = .ok () (w.alloc (mo 8)) := run_insert_last (P := Tryz.prog) w (doL.take 7) 8 (.func (.func 49) #[] #[]) _ _ _ Tryz.underlying73 Tryz.underlying3 rfl
 have i8 : (Instr.mapUpdate 73 (.map (some w.heap.size)) (.int .i64 9) (.func (.func 50) #[] #[])).run Tryz.prog (w.alloc (mo 8)) = .ok () (w.alloc (mo 9)) := run_insert_last (P := Tryz.prog) w (doL.take 8) 9 (.func (.func 50) #[] #[]) _ _ _ Tryz.underlying73 Tryz.underlying3 rfl
 have i9 : (Instr.mapUpdate 73 (.map (some w.heap.size)) (.int .i64 10) (.func (.func 51) #[] #[])).run Tryz.prog (w.alloc (mo 9)) = .ok () (w.alloc (mo 10)) := run_insert_last (P := Tryz.prog) w (doL.take 9) 10 (.func (.func 51) #[] #[]) _ _ _ Tryz.underlying73 Tryz.underlying3 rfl
 have i10 : (Instr.mapUpdate 73 (.map (some w.heap.size)) (.int .i64 11) (.func (.func 52) #[] #[])).run Tryz.prog (w.alloc (mo 10)) = .ok () (w.alloc (mo 11)) := run_insert_last (P := Tryz.prog) w (doL.take 10) 11 (.func (.func 52) #[] #[]) _ _ _ Tryz.underlying73 Tryz.underlying3 rfl
 have i11 : (Instr.mapUpdate 73 (.map (some w.heap.size)) (.int .i64 12) (.func (.func 53) #[] #[])).run Tryz.prog (w.alloc (mo 11)) = .ok () (w.alloc (mo 12)) := run_insert_last (P := Tryz.prog) w (doL.take 11) 12 (.func (.func 53) #[] #[]) _ _ _ Tryz.underlying73 Tryz.underlying3 rfl
 have i12 : (Instr.mapUpdate 73 (.map (some w.heap.size)) (.int .i64 13) (.func (.func 54) #[] #[])).run Tryz.prog (w.alloc (mo 12)) = .ok () (w.alloc (mo 13)) := run_insert_last (P := Tryz.prog) w (doL.take 12) 13 (.func (.func 54) #[] #[]) _ _ _ Tryz.underlying73 Tryz.underlying3 rfl
 have i13 : (Instr.mapUpdate 73 (.map (some w.heap.size)) (.int .i64 14) (.func (.func 55) #[] #[])).run Tryz.prog (w.alloc (mo 13)) = .ok () (w.alloc (mo 14)) := run_insert_last (P := Tryz.prog) w (doL.take 13) 14 (.func (.func 55) #[] #[]) _ _ _ Tryz.underlying73 Tryz.underlying3 rfl
 have i14 : (Instr.mapUpdate 73 (.map (some w.heap.size)) (.int .i64 101) (.func (.func 56) #[] #[])).run Tryz.prog (w.alloc (mo 14)) = .ok () (w.alloc (mo 15)) := run_insert_last (P := Tryz.prog) w (doL.take 14) 101 (.func (.func 56) #[] #[]) _ _ _ Tryz.underlying73 Tryz.underlying3 rfl
 have i15 : (Instr.mapUpdate 73 (.map (some w.heap.size)) (.int .i64 103) (.func (.func 56) #[] #[])).run Tryz.prog (w.alloc (mo 15)) = .ok () (w.alloc (mo 16)) := run_insert_last (P := Tryz.prog) w (doL.take 15) 103 (.func (.func 56) #[] #[]) _ _ _ Tryz.underlying73 Tryz.underlying3 rfl
 have i16 : (Instr.mapUpdate 73 (.map (some w.heap.size)) (.int .i64 105) (.func (.func 56) #[] #[])).run Tryz.prog (w.alloc (mo 16)) = .ok () (w.alloc (mo 17)) := run_insert_last (P := Tryz.prog) w (doL.take 16) 105 (.func (.func 56) #[] #[]) _ _ _ Tryz.underlying73 Tryz.underlying3 rfl
 have i17 : (Instr.mapUpdate 73 (.map (some w.heap.size)) (.int .i64 106) (.func (.func 56) #[] #[])).run Tryz.prog (w.alloc (mo 17)) = .ok () (w.alloc (mo 18)) := run_insert_last (P := Tryz.prog) w (doL.take 17) 106 (.func (.func 56) #[] #[]) _ _ _ Tryz.underlying73 Tryz.underlying3 rfl
 have i18 : (Instr.mapUpdate 73 (.map (some w.heap.size)) (.int .i64 109) (.func (.func 56) #[] #[])).run Tryz.prog (w.alloc (mo 18)) = .ok () (w.alloc (mo 19)) := run_insert_last (P := Tryz.prog) w (doL.take 18) 109 (.func (.func 56) #[] #[]) _ _ _ Tryz.underlying73 Tryz.underlying3 rfl
 have i19 : (Instr.mapUpdate 73 (.map (some w.heap.size)) (.int .i64 112) (.func (.func 56) #[] #[])).run Tryz.prog (w.alloc (mo 19)) = .ok () (w.alloc (mo 20)) := run_insert_last (P := Tryz.prog) w (doL.take 19) 112 (.func (.func 56) #[] #[]) _ _ _ Tryz.underlying73 Tryz.underlying3 rfl
 go_enter Tryz.func26, Tryz.ntmps26
 go_wp2
 go_ret
 exact ⟨rfl, rfl⟩
end Go.Proofs.YtmbpnkacggngkaaGreatDoor
end
section
namespace Go.Proofs.YtmbpnkacggngkaaGreatDoor
open Go.RowKit Mem Led
theorem zero_doer (w : World) : (zeroValue 72).run Tryz.prog w = .ok .nilFunc w := by kernel_rfl
theorem look_doer (w : World) (K : Int) (F : FuncId) (hK : ((doL.findIdx? fun p => K == p.1).bind fun n => doL[n]?.map fun p => p.2) = some (.func (.func F) #[] #[])) :
  (Instr.lookup 73 (.map (some w.heap.size)) (.int .i64 K) false).run Tryz.prog (w.alloc (mo 20)) = .ok (.func (.func F) #[] #[]) (w.alloc (mo 20)) := by
 have h := run_look (P := Tryz.prog) (w.alloc (mo 20)) w.heap.size (doL.take 20) K _ _ _ .nilFunc Tryz.underlying73 Tryz.underlying3 (zero_doer _) (heap_alloc_new w _)
 rw [show doL.take 20 = doL from rfl, hK] at h
 exact h
theorem setCell_id {w : World} {g k : Nat} {cs : List Value} {t : TypeId} {v : Value} (h : Blk w g cs t) (hk : cs[k]? = some v) : w.setCell ⟨g, k, none⟩ v = w := by
 have hh : (w.setCell ⟨g, k, none⟩ v).heap = w.heap := by
  apply Array.ext_getElem?
  intro i
  by_cases hi : i = g
  ·subst hi
   have h1 := h.set k v
   rw [set_same hk] at h1
   unfold Blk at h h1
   rw [h1, h]
  ·exact heap_setCell_other w ⟨g, k, none⟩ i v hi
 have e : w.setCell ⟨g, k, none⟩ v = { w with heap := (w.setCell ⟨g, k, none⟩ v).heap } := rfl
 rw [e, hh]
structure Plain (ops : List Value) (K : Int) : Prop where
 len : ops.length = 24
 kind : ops[0]? = some (.int .i64 K)
 sels : ops[7]? = some (.slice none 0 0)
 keys : ops[23]? = some (.slice none 0 0)
set_option maxRecDepth 100000 in
set_option maxHeartbeats 4000000 in
theorem apply_err (cs : List Value) (ops : List Value) (K : Int) (F : FuncId) (w : World) (k : Int) (hk : k ≠ 0) (C : List Value → World → Prop) (hC : C cs w) (h6 : ∀ cs w, C cs w → cs.length = 6 ∧ ∀ v ∈ cs, v.oneCell' = true)
  (hst : ∀ cs w w', C cs w → Below w.heap.size w w' → C cs w') (hp : Plain ops K)
  (hK : ((doL.findIdx? fun p => K == p.1).bind fun n => doL[n]?.map fun p => p.2) = some (.func (.func F) #[] #[]))
  (hcl : ∀ cs W, C cs W → Calls Tryz.prog 27 #[.agg cs.toArray] W fun e w' => ∃ cs', e = .returned (.agg cs'.toArray) ∧ C cs' w' ∧ Below W.heap.size W w')
  (eg : ∀ args w, (callFunc F args).run Tryz.prog w = .ok (.enter F args) w)
  (hdo : ∀ gl cs' W, C cs' W → Blk W gl cs' 30 → Calls Tryz.prog F #[.pointer (some ⟨gl, 0, none⟩), .agg ops.toArray] W fun e w' => e = .returned (.int .i64 k) ∧ Below W.heap.size W w') :
  Calls Tryz.prog 14 #[.agg cs.toArray, .agg ops.toArray] w fun e w' => ∃ cs' : List Value, e = .returned (.tuple #[.agg cs'.toArray, .int .i64 k]) ∧ (cs'.length = 6 ∧ ∀ v ∈ cs', v.oneCell' = true) ∧ Below w.heap.size w w' := by
 obtain ⟨W, hW⟩ : ∃ W, ((w.alloc (.cells cs.toArray 30)).alloc (.cells ops.toArray 47)).alloc (.cells (lgCells (.slice none 0 0)).toArray 30) = W := ⟨_, rfl⟩
 have b0 : Blk W w.heap.size cs 30 := by rw [← hW]; exact ((Blk.new _ _ _).alloc _).alloc _
 have b1 : Blk W (w.heap.size + 1) ops 47 := by
  have := Blk.new (w.alloc (.cells cs.toArray 30)) ops 47
  rw [← hW]
  exact Blk.alloc (by simpa using this) _
 have b2 : Blk W (w.heap.size + 2) (lgCells (.slice none 0 0)) 30 := by
  have := Blk.new ((w.alloc (.cells cs.toArray 30)).alloc (.cells ops.toArray 47)) (lgCells (.slice none 0 0)) 30
  rw [← hW]
  simpa using this
 have hbW : Below w.heap.size w W := by rw [← hW]; exact (((Below.refl _ _).alloc (Nat.le_refl _) _).alloc (by simp) _).alloc (by simp; omega) _
 have hzW : W.heap.size = w.heap.size + 3 := by rw [← hW]; simp
 have hdoers := doers_any W.drew
 have hlook : (Instr.lookup 73 (.map (some (w.heap.size + 3))) (.int .i64 K) false).run Tryz.prog (W.alloc (mo 20)).drew = .ok (.func (.func F) #[] #[]) (W.alloc (mo 20)).drew := by
  have := look_doer W.drew K F hK
  rw [show W.drew.heap.size = w.heap.size + 3 from hzW] at this
  exact this
 have m0 : W.cell? ⟨w.heap.size + 1, 0, none⟩ = some (.int .i64 K) := (b1.cell 0).trans hp.kind
 have m1 : ∀ o, (W.alloc o).cell? ⟨w.heap.size + 1, 0, none⟩ = some (.int .i64 K) := fun o => ((b1.alloc o).cell 0).trans hp.kind
 have HW := Lib.hid hW
 unfold lgCells at HW
 clear hW
 go_enter Tryz.func14, Tryz.ntmps14
 go_upto_region 1 with fail
 rw [HW.out]
 go_cut [6] (fun s6 wx => s6 = .func (.func F) #[] #[] ∧ Below W.heap.size W wx)
 case first =>
  go_region_with (go_at_call 26; refine hdoers.mono ?_; rintro e w1 ⟨rfl, rfl⟩)
  all_goals
   go_wp2_with fail
   go_meet
   case rel => exact ⟨rfl, ((Below.refl _ _).drew).alloc (Nat.le_refl _) _⟩
 case rest =>
  obtain ⟨rfl, hbx⟩ := hcut
  have c0 := b0.below hbx
  have c1 := b1.below hbx
  have c2 := b2.below hbx
  have hbw : Below w.heap.size w wc := hbW.trans (hbx.mono hbW.size)
  have hCc := hst _ _ _ hC hbw
  have h6a := h6 _ _ hCc
  have hld := load_lg c0 h6a.1
  have hcc := hcl cs wc hCc
  have hnil : ∀ W, (Go.binOp .eql 72 (.func (.func F) #[] #[]) .nilFunc).run Tryz.prog W = .ok (.bool false) W := fun W => by kernel_rfl
  have hzc := hbx.size
  clear hlook hdoers m0 m1 HW b0 b1 b2 hbx hC
  go_wp2_with fail
  refine hcc.mono ?_
  rintro e w2 ⟨cs', rfl, hC2, hb2⟩
  have d0 := c0.below hb2
  have d1 := c1.below hb2
  have d2 := c2.below hb2
  have hbw2 : Below w.heap.size w w2 := hbw.trans (hb2.mono hbw.size)
  have h6b := h6 _ _ hC2
  have bn := Blk.new w2 (lgCells (.slice none 0 0)) 30
  obtain ⟨hs1, B3⟩ := store_lg bn rfl h6b.1 h6b.2
  obtain ⟨wn, hwn⟩ : ∃ wn, (w2.alloc (.cells (lgCells (.slice none 0 0)).toArray 30)).setCells w2.heap.size 0 cs' = wn := ⟨_, rfl⟩
  have hcn : Chg [] w2 wn := by rw [← hwn]; exact ((Chg.refl _ _).alloc _).setCells _ (.inr (Nat.le_refl _))
  rw [hwn] at hs1 B3
  unfold lgCells at hs1
  have e0 := d0.chg hcn (by simp)
  have e1 := d1.chg hcn (by simp)
  have e2 := d2.chg hcn (by simp)
  have hbn := hcn.below (fun _ h => by cases h)
  have hCn := hst _ _ _ hC2 hbn
  have hC0 := hst _ _ _ (hst _ _ _ hCc hb2) hbn
  have hbwn : Below w.heap.size w wn := hbw2.trans (hbn.mono hbw2.size)
  have p7 : wn.cell? ⟨w.heap.size + 1, 7, none⟩ = some (.slice none 0 0) := (e1.cell 7).trans hp.sels
  have p23 : wn.cell? ⟨w.heap.size + 1, 23, none⟩ = some (.slice none 0 0) := (e1.cell 23).trans hp.keys
  have f7 : wn.frozen? ⟨w.heap.size + 1, 7, none⟩ = false := e1.froz 7
  have f23 : wn.frozen? ⟨w.heap.size + 1, 23, none⟩ = false := e1.froz 23
  have s7 : Hid ((wn.setCell ⟨w.heap.size + 1, 7, none⟩ (.slice none 0 0)).cell? ⟨w.heap.size + 1, 7, none⟩ = some (.slice none 0 0) ∧ (wn.setCell ⟨w.heap.size + 1, 7, none⟩ (.slice none 0 0)).cell? ⟨w.heap.size + 1, 23, none⟩ = some (.slice none 0 0)) :=
   Lib.hid ⟨setc_same _ _ _ _ _ p7, (setc_ne _ _ _ _ _ (by omega)).trans p23⟩
  have s23 : Hid (((wn.setCell ⟨w.heap.size + 1, 7, none⟩ (.slice none 0 0)).setCell ⟨w.heap.size + 1, 23, none⟩ (.slice none 0 0)).cell? ⟨w.heap.size + 1, 7, none⟩ = some (.slice none 0 0) ∧ ((wn.setCell ⟨w.heap.size + 1, 7, none⟩ (.slice none 0 0)).setCell ⟨w.heap.size + 1, 23, none⟩ (.slice none 0 0)).cell? ⟨w.heap.size + 1, 23, none⟩ = some (.slice none 0 0)) :=
   Lib.hid ⟨(setc_ne _ _ _ _ _ (by omega)).trans s7.out.1, setc_same _ _ _ _ _ s7.out.2⟩
  clear hld hcc c0 c1 c2 d0 d1 d2 bn hwn hcn hbn hzc
  go_wp2_with fail
  go_region_held3 (fun w' => w'.cell? ⟨w.heap.size + 1, 7, none⟩ = some (.slice none 0 0) ∧ w'.cell? ⟨w.heap.size + 1, 23, none⟩ = some (.slice none 0 0)) (first | exact s7.out | exact s23.out | go_keep) (first | (go_at_call 28; refine (cloneTexts_nil _).mono ?_; rintro e w1 ⟨rfl, rfl⟩) | (go_at_call 29; refine (cloneJwks_nil _).mono ?_; rintro e w1 ⟨rfl, rfl⟩))
  rw [setCell_id e1 hp.sels, setCell_id e1 hp.keys]
  clear s7 s23 f7 f23 p7 p23
  have hbwd : Below w.heap.size w wn.drew := hbwn.drew
  have hCd := hst _ _ _ hCn (Below.refl _ _).drew
  have hC0d := hst _ _ _ hC0 (Below.refl _ _).drew
  have hld := load_op e1.drew hp.len
  have hdd := hdo w2.heap.size cs' wn.drew hCd B3.drew
  have hkb : (k != 0) = true := by simpa using hk
  go_wp2_with fail
  refine hdd.mono ?_
  rintro e w3 ⟨rfl, hb3⟩
  have g0 := e0.drew.below hb3
  have g2 := e2.drew.below hb3
  have hC3 := hst _ _ _ hC0d hb3
  have hbw3 : Below w.heap.size w w3 := hbwd.trans (hb3.mono hbwd.size)
  have hld2 := load_lg g0 (h6 _ _ hC3).1
  have hcc2 := hcl cs w3 hC3
  clear hld hdd e0 e1 e2 B3 hCn hC0 hCd hC0d hbwn hbwd
  go_wp2_with fail
  refine hcc2.mono ?_
  rintro e w4 ⟨cs4, rfl, hC4, hb4⟩
  have h6d := h6 _ _ hC4
  have q2 := g2.below hb4
  obtain ⟨hs2, B4⟩ := store_lg q2 rfl h6d.1 h6d.2
  have hbw4 : Below w.heap.size w w4 := hbw3.trans (hb4.mono hbw3.size)
  obtain ⟨w5, hw5⟩ : ∃ w5, w4.setCells (w.heap.size + 2) 0 cs4 = w5 := ⟨_, rfl⟩
  have hc5 : Chg [w.heap.size + 2] w4 w5 := by rw [← hw5]; exact (Chg.refl _ _).setCells _ (.inl (by simp))
  rw [hw5] at hs2 B4
  have hH := B4.has (n := 6) h6d.1
  have hA := B4.arr (n := 6) h6d.1
  have hbw5 : Below w.heap.size w w5 := ((Chg.of_below (S := [w.heap.size + 2]) hbw4).and hc5).below' (Nat.le_refl _) (by simp)
  clear hw5 hc5 B4 g0 g2 q2
  go_wp2
  refine bodyPost_ret (results_arr2 (P := Tryz.prog) Tryz.results14 _ _ (w.heap.size + 2) 0 6 _ rfl Tryz.underlying30 rfl size_ledger hH) rfl ?_
  exact ⟨cs4, by rw [hA]; rfl, h6d, hbw5⟩
set_option maxRecDepth 100000 in
set_option maxHeartbeats 4000000 in
theorem apply_ok (cs : List Value) (ops : List Value) (K : Int) (F : FuncId) (w : World) (C : List Value → World → Prop) (hC : C cs w) (h6 : ∀ cs w, C cs w → cs.length = 6 ∧ ∀ v ∈ cs, v.oneCell' = true)
  (D : List Value → World → Prop) (hDs : ∀ cs w' w'' g, g < w.heap.size + 3 → D cs w' → Chg [g] w' w'' → D cs w'')
  (hst : ∀ cs w w', C cs w → Below w.heap.size w w' → C cs w') (hp : Plain ops K)
  (hK : ((doL.findIdx? fun p => K == p.1).bind fun n => doL[n]?.map fun p => p.2) = some (.func (.func F) #[] #[]))
  (hcl : ∀ cs W, C cs W → Calls Tryz.prog 27 #[.agg cs.toArray] W fun e w' => ∃ cs', e = .returned (.agg cs'.toArray) ∧ C cs' w' ∧ Below W.heap.size W w')
  (eg : ∀ args w, (callFunc F args).run Tryz.prog w = .ok (.enter F args) w)
  (hdo : ∀ gl cs' W, w.heap.size + 3 ≤ W.heap.size → C cs' W → Blk W gl cs' 30 → Calls Tryz.prog F #[.pointer (some ⟨gl, 0, none⟩), .agg ops.toArray] W fun e w' => e = .returned (.int .i64 0) ∧ ∃ cs2, Blk w' gl cs2 30 ∧ D cs2 w' ∧ Chg [gl] W w' ∧ cs2.length = 6 ∧ ∀ v ∈ cs2, v.oneCell' = true) :
  Calls Tryz.prog 14 #[.agg cs.toArray, .agg ops.toArray] w fun e w' => ∃ cs' : List Value, e = .returned (.tuple #[.agg cs'.toArray, .int .i64 0]) ∧ D cs' w' ∧ (cs'.length = 6 ∧ ∀ v ∈ cs', v.oneCell' = true) ∧ Below w.heap.size w w' := by
 obtain ⟨W, hW⟩ : ∃ W, ((w.alloc (.cells cs.toArray 30)).alloc (.cells ops.toArray 47)).alloc (.cells (lgCells (.slice none 0 0)).toArray 30) = W := ⟨_, rfl⟩
 have b0 : Blk W w.heap.size cs 30 := by rw [← hW]; exact ((Blk.new _ _ _).alloc _).alloc _
 have b1 : Blk W (w.heap.size + 1) ops 47 := by
  have := Blk.new (w.alloc (.cells cs.toArray 30)) ops 47
  rw [← hW]
  exact Blk.alloc (by simpa using this) _
 have b2 : Blk W (w.heap.size + 2) (lgCells (.slice none 0 0)) 30 := by
  have := Blk.new ((w.alloc (.cells cs.toArray 30)).alloc (.cells ops.toArray 47)) (lgCells (.slice none 0 0)) 30
  rw [← hW]
  simpa using this
 have hbW : Below w.heap.size w W := by rw [← hW]; exact (((Below.refl _ _).alloc (Nat.le_refl _) _).alloc (by simp) _).alloc (by simp; omega) _
 have hzW : W.heap.size = w.heap.size + 3 := by rw [← hW]; simp
 have hdoers := doers_any W.drew
 have hlook : (Instr.lookup 73 (.map (some (w.heap.size + 3))) (.int .i64 K) false).run Tryz.prog (W.alloc (mo 20)).drew = .ok (.func (.func F) #[] #[]) (W.alloc (mo 20)).drew := by
  have := look_doer W.drew K F hK
  rw [show W.drew.heap.size = w.heap.size + 3 from hzW] at this
  exact this
 have m0 : W.cell? ⟨w.heap.size + 1, 0, none⟩ = some (.int .i64 K) := (b1.cell 0).trans hp.kind
 have m1 : ∀ o, (W.alloc o).cell? ⟨w.heap.size + 1, 0, none⟩ = some (.int .i64 K) := fun o => ((b1.alloc o).cell 0).trans hp.kind
 have HW := Lib.hid hW
 unfold lgCells at HW
 clear hW
 go_enter Tryz.func14, Tryz.ntmps14
 go_upto_region 1 with fail
 rw [HW.out]
 go_cut [6] (fun s6 wx => s6 = .func (.func F) #[] #[] ∧ Below W.heap.size W wx)
 case first =>
  go_region_with (go_at_call 26; refine hdoers.mono ?_; rintro e w1 ⟨rfl, rfl⟩)
  all_goals
   go_wp2_with fail
   go_meet
   case rel => exact ⟨rfl, ((Below.refl _ _).drew).alloc (Nat.le_refl _) _⟩
 case rest =>
  obtain ⟨rfl, hbx⟩ := hcut
  have c0 := b0.below hbx
  have c1 := b1.below hbx
  have c2 := b2.below hbx
  have hbw : Below w.heap.size w wc := hbW.trans (hbx.mono hbW.size)
  have hCc := hst _ _ _ hC hbw
  have h6a := h6 _ _ hCc
  have hld := load_lg c0 h6a.1
  have hcc := hcl cs wc hCc
  have hnil : ∀ W, (Go.binOp .eql 72 (.func (.func F) #[] #[]) .nilFunc).run Tryz.prog W = .ok (.bool false) W := fun W => by kernel_rfl
  have hzc := hbx.size
  clear hlook hdoers m0 m1 HW b0 b1 b2 hbx hC
  go_wp2_with fail
  refine hcc.mono ?_
  rintro e w2 ⟨cs', rfl, hC2, hb2⟩
  have d0 := c0.below hb2
  have d1 := c1.below hb2
  have d2 := c2.below hb2
  have hbw2 : Below w.heap.size w w2 := hbw.trans (hb2.mono hbw.size)
  have h6b := h6 _ _ hC2
  have bn := Blk.new w2 (lgCells (.slice none 0 0)) 30
  obtain ⟨hs1, B3⟩ := store_lg bn rfl h6b.1 h6b.2
  obtain ⟨wn, hwn⟩ : ∃ wn, (w2.alloc (.cells (lgCells (.slice none 0 0)).toArray 30)).setCells w2.heap.size 0 cs' = wn := ⟨_, rfl⟩
  have hcn : Chg [] w2 wn := by rw [← hwn]; exact ((Chg.refl _ _).alloc _).setCells _ (.inr (Nat.le_refl _))
  rw [hwn] at hs1 B3
  unfold lgCells at hs1
  have hz3 : w.heap.size + 3 ≤ wn.heap.size := by
   have h1 := hcn.size
   have h2 := hb2.size
   omega
  have e0 := d0.chg hcn (by simp)
  have e1 := d1.chg hcn (by simp)
  have e2 := d2.chg hcn (by simp)
  have hbn := hcn.below (fun _ h => by cases h)
  have hCn := hst _ _ _ hC2 hbn
  have hC0 := hst _ _ _ (hst _ _ _ hCc hb2) hbn
  have hbwn : Below w.heap.size w wn := hbw2.trans (hbn.mono hbw2.size)
  have p7 : wn.cell? ⟨w.heap.size + 1, 7, none⟩ = some (.slice none 0 0) := (e1.cell 7).trans hp.sels
  have p23 : wn.cell? ⟨w.heap.size + 1, 23, none⟩ = some (.slice none 0 0) := (e1.cell 23).trans hp.keys
  have f7 : wn.frozen? ⟨w.heap.size + 1, 7, none⟩ = false := e1.froz 7
  have f23 : wn.frozen? ⟨w.heap.size + 1, 23, none⟩ = false := e1.froz 23
  have s7 : Hid ((wn.setCell ⟨w.heap.size + 1, 7, none⟩ (.slice none 0 0)).cell? ⟨w.heap.size + 1, 7, none⟩ = some (.slice none 0 0) ∧ (wn.setCell ⟨w.heap.size + 1, 7, none⟩ (.slice none 0 0)).cell? ⟨w.heap.size + 1, 23, none⟩ = some (.slice none 0 0)) :=
   Lib.hid ⟨setc_same _ _ _ _ _ p7, (setc_ne _ _ _ _ _ (by omega)).trans p23⟩
  have s23 : Hid (((wn.setCell ⟨w.heap.size + 1, 7, none⟩ (.slice none 0 0)).setCell ⟨w.heap.size + 1, 23, none⟩ (.slice none 0 0)).cell? ⟨w.heap.size + 1, 7, none⟩ = some (.slice none 0 0) ∧ ((wn.setCell ⟨w.heap.size + 1, 7, none⟩ (.slice none 0 0)).setCell ⟨w.heap.size + 1, 23, none⟩ (.slice none 0 0)).cell? ⟨w.heap.size + 1, 23, none⟩ = some (.slice none 0 0)) :=
   Lib.hid ⟨(setc_ne _ _ _ _ _ (by omega)).trans s7.out.1, setc_same _ _ _ _ _ s7.out.2⟩
  clear hld hcc c0 c1 c2 d0 d1 d2 bn hwn hcn hbn
  go_wp2_with fail
  go_region_held3 (fun w' => w'.cell? ⟨w.heap.size + 1, 7, none⟩ = some (.slice none 0 0) ∧ w'.cell? ⟨w.heap.size + 1, 23, none⟩ = some (.slice none 0 0)) (first | exact s7.out | exact s23.out | go_keep) (first | (go_at_call 28; refine (cloneTexts_nil _).mono ?_; rintro e w1 ⟨rfl, rfl⟩) | (go_at_call 29; refine (cloneJwks_nil _).mono ?_; rintro e w1 ⟨rfl, rfl⟩))
  rw [setCell_id e1 hp.sels, setCell_id e1 hp.keys]
  clear s7 s23 f7 f23 p7 p23
  have hbwd : Below w.heap.size w wn.drew := hbwn.drew
  have hCd := hst _ _ _ hCn (Below.refl _ _).drew
  have hC0d := hst _ _ _ hC0 (Below.refl _ _).drew
  have hld := load_op e1.drew hp.len
  have hdd := hdo w2.heap.size cs' wn.drew hz3 hCd B3.drew
  go_wp2_with fail
  refine hdd.mono ?_
  rintro e w3 ⟨rfl, cs2, B5, hD5, hc3, h6c, h6e⟩
  have hz2 : w.heap.size + 3 ≤ w2.heap.size := by
   have := hb2.size
   omega
  have g2 := e2.drew.chg hc3 (by simp; omega)
  have hbw3 : Below w.heap.size w w3 := hbwd.trans (hc3.below' (B := w.heap.size) hbwd.size (by simp; omega))
  have hld2 := load_lg B5 h6c
  obtain ⟨hs2, B4⟩ := store_lg g2 rfl h6c h6e
  obtain ⟨w5, hw5⟩ : ∃ w5, w3.setCells (w.heap.size + 2) 0 cs2 = w5 := ⟨_, rfl⟩
  have hc5 : Chg [w.heap.size + 2] w3 w5 := by rw [← hw5]; exact (Chg.refl _ _).setCells _ (.inl (by simp))
  rw [hw5] at hs2 B4
  have hH := B4.has (n := 6) h6c
  have hA := B4.arr (n := 6) h6c
  have hD6 : D cs2 w5 := hDs cs2 w3 w5 (w.heap.size + 2) (by omega) hD5 hc5
  have hbw5 : Below w.heap.size w w5 := ((Chg.of_below (S := [w.heap.size + 2]) hbw3).and hc5).below' (Nat.le_refl _) (by simp)
  clear hld hdd e0 e1 e2 B3 hCn hC0 hCd hC0d hbwn hbwd hw5 hc5 B4 g2 B5
  go_wp2
  refine bodyPost_ret (results_arr2 (P := Tryz.prog) Tryz.results14 _ _ (w.heap.size + 2) 0 6 _ rfl Tryz.underlying30 rfl size_ledger hH) rfl ?_
  exact ⟨cs2, by rw [hA]; rfl, hD6, ⟨h6c, h6e⟩, hbw5⟩
end Go.Proofs.YtmbpnkacggngkaaGreatDoor
end
