/- THE WALK of LedgerCodes. -/
import Derived.Test.YtmbpnkacggngkaaGreatDoorLedSame
import Derived.Test.YtmbpnkacggngkaaGreatDoorLedCut
import Derived.Test.YtmbpnkacggngkaaGreatDoorLedDecodes
import Derived.Test.YtmbpnkacggngkaaGreatDoorLedIn
import Derived.Test.YtmbpnkacggngkaaGreatDoorLedCodesSpec
namespace Go.Proofs.YtmbpnkacggngkaaGreatDoor
open Go.RowKit Mem Led

theorem emany_len {α : Type} (f : α → Txt) (m : Nat) (hf : ∀ x, (f x).length ≤ m) (L : List α) : (emany f L).length ≤ 1 + 255 * m := by
  unfold emany
  rw [List.length_append, le_length]
  have hl : (L.take (L.length % 256)).length ≤ 255 := by
    rw [List.length_take]
    have := Nat.mod_lt L.length (show 256 > 0 by omega)
    omega
  generalize L.take (L.length % 256) = M at *
  have : ∀ M : List α, ((M.map f).flatten).length ≤ M.length * m := by
    intro M
    induction M with
    | nil => simp
    | cons x M ih =>
      rw [List.map_cons, List.flatten_cons, List.length_append, List.length_cons, Nat.succ_mul]
      have := hf x
      omega
  have h1 := this M
  have h2 := Nat.mul_le_mul_right m hl
  omega
theorem enc_len (o : Led.Op) : (enc o).length ≤ 100000000 := by
  have e := etext_len
  have h1 : (emany etext o.entry.sels).length ≤ 20000000 := Nat.le_trans (emany_len etext 65600 e o.entry.sels) (by decide)
  have h2 : (emany ekey o.bundle.keys).length ≤ 40000000 := Nat.le_trans (emany_len ekey 131200 (fun k => by unfold ekey; rw [List.length_append]; have := e k.kid; have := e k.x; omega) o.bundle.keys) (by decide)
  have sum : ∀ (a b : Txt) (m n t : Nat), a.length ≤ m → b.length ≤ n → m + n ≤ t → (a ++ b).length ≤ t := fun a b m n t h h' h'' => by
    rw [List.length_append]
    exact Nat.le_trans (Nat.add_le_add h h') h''
  have n8 : ∀ x, (le 8 x).length ≤ 8 := fun x => Nat.le_of_eq (le_length 8 x)
  have n1 : ∀ x, (le 1 x).length ≤ 1 := fun x => Nat.le_of_eq (le_length 1 x)
  unfold enc
  refine Nat.le_trans ?_ (show 60721681 ≤ 100000000 by decide)
  refine sum _ _ 1 60721680 _ (n1 _) ?_ (Nat.le_refl _)
  refine sum _ _ 8 60721672 _ (n8 _) ?_ (Nat.le_refl _)
  refine sum _ _ 65600 60656072 _ (e _) ?_ (Nat.le_refl _)
  refine sum _ _ 8 60656064 _ (n8 _) ?_ (Nat.le_refl _)
  refine sum _ _ 65600 60590464 _ (e _) ?_ (Nat.le_refl _)
  refine sum _ _ 65600 60524864 _ (e _) ?_ (Nat.le_refl _)
  refine sum _ _ 8 60524856 _ (n8 _) ?_ (Nat.le_refl _)
  refine sum _ _ 20000000 40524856 _ h1 ?_ (Nat.le_refl _)
  refine sum _ _ 65600 40459256 _ (e _) ?_ (Nat.le_refl _)
  refine sum _ _ 65600 40393656 _ (e _) ?_ (Nat.le_refl _)
  refine sum _ _ 8 40393648 _ (n8 _) ?_ (Nat.le_refl _)
  refine sum _ _ 8 40393640 _ (n8 _) ?_ (Nat.le_refl _)
  refine sum _ _ 65600 40328040 _ (e _) ?_ (Nat.le_refl _)
  refine sum _ _ 65600 40262440 _ (e _) ?_ (Nat.le_refl _)
  refine sum _ _ 8 40262432 _ (n8 _) ?_ (Nat.le_refl _)
  refine sum _ _ 8 40262424 _ (n8 _) ?_ (Nat.le_refl _)
  refine sum _ _ 65600 40196824 _ (e _) ?_ (Nat.le_refl _)
  refine sum _ _ 65600 40131224 _ (e _) ?_ (Nat.le_refl _)
  refine sum _ _ 65600 40065624 _ (e _) ?_ (Nat.le_refl _)
  refine sum _ _ 8 40065616 _ (n8 _) ?_ (Nat.le_refl _)
  refine sum _ _ 8 40065608 _ (n8 _) ?_ (Nat.le_refl _)
  refine sum _ _ 65600 40000008 _ (e _) ?_ (Nat.le_refl _)
  refine sum _ _ 8 40000000 _ (n8 _) ?_ (Nat.le_refl _)
  exact h2
theorem fit_ok {o : Led.Op} (h : o.Fit) : o.Ok :=
  ⟨by have := h.name; omega, by have := h.epath; omega, by have := h.eparent; omega, h.esels, fun x hx => by have := h.esel x hx; omega, by have := h.jtext; omega, by have := h.jname; omega, by have := h.nname; omega, by have := h.nkey; omega, by have := h.ndoc; omega,
    by have := h.kkid; omega, by have := h.kseed; omega, by have := h.bdom; omega, h.bkeys, fun k hk => by have := h.bkey k hk; omega⟩
/-- A list of one's own has room, and is none only where it is empty. -/
theorem own_cap {w : World} {base : Nat} {e : TypeId} {size n c : Nat} {A : Option Addr} {xs : List Value} (h : w.ownsRow base e size (.slice A n c) n xs) : c ≤ 9223372036854775807 ∧ (A = none → n = 0) := by
  obtain ⟨A', c', h1, h2, h3⟩ := own_form h
  injection h1 with h1 h4 h5
  refine ⟨by omega, fun hA => ?_⟩
  rcases Nat.eq_zero_or_pos n with h0 | h0
  · exact h0
  · obtain ⟨g, hg, _⟩ := own_some h h0
    rw [hA] at hg
    cases hg
set_option maxRecDepth 100000 in
set_option maxHeartbeats 8000000 in
theorem ledgerCodes_in (o : Led.Op) (As : Option Addr) (ns cS : Nat) (Ak : Option Addr) (nk cK : Nat) (w : World) (hin : OpIn w o As ns cS Ak nk cK) :
    Calls Tryz.prog 8 #[.agg (opCells o (.slice As ns cS) (.slice Ak nk cK)).toArray] w fun e w' => e = .returned (.bool true) ∧ Below w.heap.size w w' := by
  obtain ⟨W, hW⟩ : ∃ W, w.alloc (.cells (opCells o (.slice As ns cS) (.slice Ak nk cK)).toArray 47) = W := ⟨_, rfl⟩
  have b0 : Blk W w.heap.size (opCells o (.slice As ns cS) (.slice Ak nk cK)) 47 := by rw [← hW]; exact Blk.new w _ _
  have hbW : Below w.heap.size w W := by rw [← hW]; exact (Below.refl _ _).alloc (Nat.le_refl _) _
  have hs := hin.sized
  have hcut := cut_go o.kind o.n o.name o.entry.n o.entry.path o.entry.parent o.entry.ttl o.join.text o.join.name o.join.expires o.join.used o.node.name o.node.key o.node.expires o.node.seq o.node.doc o.key.kid o.key.seed o.key.state o.key.since o.bundle.domain o.bundle.number As ns cS Ak nk cK o.entry.sels o.bundle.keys hs.name hs.epath hs.eparent hs.jtext hs.jname hs.nname hs.nkey hs.ndoc hs.kkid hs.kseed hs.bdom W (Ts.below hin.sels hbW) hs.esel hin.hs ((Vs.below hin.keys hbW).mono hbW.size) hs.bkey hin.hk
  have hcut' : Calls Tryz.prog 13 #[.agg (opCells o (.slice As ns cS) (.slice Ak nk cK)).toArray] W fun e w' => ∃ A1 c1 A2 c2 KK CS, e = .returned (.agg CS) ∧ CS = (opCells (cutOp o KK) (.slice A1 (min ns 6) c1) (.slice A2 (min nk 9) c2)).toArray ∧ min ns 6 ≤ c1 ∧ min nk 9 ≤ c2 ∧
      w'.ownsRow W.heap.size 9 1 (.slice A1 (min ns 6) c1) (min ns 6) (tv ((cutOp o KK).entry.sels)) ∧ w'.ownsRow W.heap.size 54 2 (.slice A2 (min nk 9) c2) (min nk 9) (jv (cutOp o KK).bundle.keys) ∧ KeysTo (fun x r => r = Sha.nameOf x) (o.bundle.keys.take 9) KK ∧ Below W.heap.size W w' :=
    hcut.mono fun e w' ⟨A1, c1, A2, c2, KK, h1, h2, h3, h4, h5, h6, h7⟩ => ⟨A1, c1, A2, c2, KK, _, h1, rfl, h2, h3, h4, h5, h6, h7⟩
  clear hcut
  have hld := load_op b0 rfl
  have HW := Lib.hid hW
  have hzW : W.heap.size = w.heap.size + 1 := by rw [← hW]; simp
  clear hW
  unfold opCells at HW
  simp only [tx, nm] at HW
  have HC := Lib.hid hcut'
  clear hcut'
  obtain ⟨CS0, hCS0⟩ : ∃ CS0, (opCells o (.slice As ns cS) (.slice Ak nk cK)).toArray = CS0 := ⟨_, rfl⟩
  rw [hCS0] at hld HC ⊢
  have HCS0 := Lib.hid hCS0
  clear hCS0
  have HW' : Hid (w.alloc (.cells CS0 47) = W) := Lib.hid (by rw [← HCS0.out]; exact HW.out)
  go_enter Tryz.func8, Tryz.ntmps8
  go_upto_region 1 with fail
  rw [HW'.out]
  clear HW HW'
  go_wp2_with fail
  refine HC.out.mono ?_
  rintro e w1 ⟨A1, c1, A2, c2, KK, CS, rfl, hCS, f1, f2, t1, t2, hK, hb1⟩
  have HCS := Lib.hid hCS
  obtain ⟨o', ho'⟩ : ∃ o', cutOp o KK = o' := ⟨_, rfl⟩
  have hfit : 0 ≤ o.kind → o.kind ≤ 255 → o'.Fit := fun h0 h1 => by
    rw [← ho']
    exact cutOp_fit (R := fun x r => r = Sha.nameOf x) (fun x r h => by rw [h, Sha.nameOf_len]; omega) hK h0 (by omega) hs.n hs.en hs.ettl hs.jexp hs.nexp hs.nseq hs.kstate hs.ksince hs.bnum
  have HFIT := Lib.hid hfit
  have HKIND := Lib.hid (show o'.kind = o.kind by rw [← ho']; rfl)
  rw [ho'] at hCS t1 t2
  clear ho' hK hfit HC HCS
  obtain ⟨hst, B1⟩ := store_op (b0.below hb1) rfl (vs := opCells o' (.slice A1 (min ns 6) c1) (.slice A2 (min nk 9) c2)) rfl (opCells_one _ _ _ _ _ _ _)
  have hc1 : Chg [w.heap.size] w1 (w1.setCells w.heap.size 0 (opCells o' (.slice A1 (min ns 6) c1) (.slice A2 (min nk 9) c2))) := (Chg.refl _ _).setCells _ (.inl (by simp))
  obtain ⟨w2, hw2⟩ : ∃ w2, w1.setCells w.heap.size 0 (opCells o' (.slice A1 (min ns 6) c1) (.slice A2 (min nk 9) c2)) = w2 := ⟨_, rfl⟩
  rw [hw2] at hst B1 hc1
  rw [← hCS] at hst
  have hwb : Below w.heap.size w w1 := hbW.trans (hb1.mono hbW.size)
  have hb2 : Below w.heap.size w w2 := hbW.trans (((Chg.of_below (S := [w.heap.size]) hb1).trans hc1 (fun s h => .inl h)).below' hbW.size (by simp))
  have t1' := own_keep_chg t1 hc1 (by omega)
  have t2' := own_keep_chg t2 hc1 (by omega)
  have m0 : w2.cell? ⟨w.heap.size, 0, none⟩ = some (.int .i64 o'.kind) := B1.cell 0
  have hld2 := load_op B1 rfl
  rw [← hCS] at hld2
  have HCS := Lib.hid hCS
  clear hCS hw2 t1 t2 hwb hb1 hbW hzW b0 hc1 hld
  obtain ⟨m1, hm1⟩ : ∃ m1, min ns 6 = m1 := ⟨_, rfl⟩
  obtain ⟨m2, hm2⟩ : ∃ m2, min nk 9 = m2 := ⟨_, rfl⟩
  rw [hm1] at t1' f1 HCS B1
  rw [hm2] at t2' f2 HCS B1
  clear hm1 hm2
  by_cases hr : 0 ≤ o.kind ∧ o.kind ≤ 255
  · have hf := HFIT.out hr.1 hr.2
    have hk0 : ¬ o'.kind < 0 := by rw [HKIND.out]; omega
    have hk1 : ¬ o'.kind > 255 := by rw [HKIND.out]; omega
    obtain ⟨K, hK⟩ : ∃ K : Nat, o'.kind = K := ⟨o'.kind.toNat, by omega⟩
    have henc := encode_any o' (fit_ok hf) K hK (by omega) A1 m1 c1 A2 m2 c2 w2 (Vs.of_own t1') (Vs.of_own t2') f1 f2
    rw [← HCS.out] at henc
    have hrd := read_op hf false
    have hlen := enc_len o'
    have HENC := Lib.hid henc
    have HRD := Lib.hid hrd
    clear henc hrd
    go_wp2_with fail
    refine HENC.out.mono ?_
    rintro e w3 ⟨v, rfl, hown, hb3⟩
    obtain ⟨A3, c3, rfl, r1, r2⟩ := own_form hown
    have hdec := decode_any A3 _ c3 (enc o') w3 (Bs.of_own hown) r1 (by omega)
    unfold Decoded at hdec
    rw [HRD.out] at hdec
    simp only [Bad, Bool.false_or, List.length_nil, Nat.lt_irrefl, decide_false, Bool.false_eq_true, if_false] at hdec
    have HDEC := Lib.hid hdec
    clear hdec HENC HRD
    go_wp2_with fail
    refine HDEC.out.mono ?_
    rintro e w4 ⟨hb4, cs, ⟨gs, gk, n1, k1, rfl, g1, g2, g3, g4, g5, g6⟩, rfl⟩
    have hb24 : Below w2.heap.size w2 w4 := hb3.trans (hb4.mono hb3.size)
    obtain ⟨w5, hs5, B5, hb5⟩ := new_op w4 (opCells o' (.slice (some ⟨gs, 0, none⟩) n1 n1) (.slice (some ⟨gk, 0, none⟩) k1 k1)) rfl (opCells_one _ _ _ _ _ _ _)
    have hb25 : Below w2.heap.size w2 w5 := hb24.trans (hb5.mono hb24.size)
    have hld5 := load_op B5 rfl
    have hld1 := load_op (B1.below hb25) rfl
    rw [← HCS.out] at hld1
    have hsame := sameop_same o' (some ⟨gs, 0, none⟩) n1 n1 (some ⟨gk, 0, none⟩) k1 k1 A1 m1 c1 A2 m2 c2 w5 ⟨Nat.le_refl _, by have := hf.esels; omega, fun h => by cases h⟩ (blk_vs (g3.below hb5) (by rw [tv_length, g5]; omega)) ⟨Nat.le_refl _, by have := hf.bkeys; omega, fun h => by cases h⟩ (blk_vs (g4.below hb5) (by rw [← jv_rows, jv_length, g6]))
      ⟨f1, (own_cap t1').1, (own_cap t1').2⟩ (Ts.below (Ts.of_own t1') hb25) ⟨f2, (own_cap t2').1, (own_cap t2').2⟩ ((Vs.below (Vs.of_own t2') hb25).mono hb25.size)
    rw [← HCS.out] at hsame
    have hl := fun W => lives_any W
    have hb6 : Below w.heap.size w w5 := hb2.trans (hb25.mono hb2.size)
    clear g3 g4 g5 g6 t1' t2' hown hb3 hb4 hb24 hb25 HDEC hb5 B5 B1 m0 hld2 hst hf hlen
    generalize (opCells o' (.slice (some ⟨gs, 0, none⟩) n1 n1) (.slice (some ⟨gk, 0, none⟩) k1 k1)).toArray = CS5 at *
    go_wp2_with fail
    refine hsame.mono ?_
    rintro e w6 ⟨rfl, hb7⟩
    go_wp2_with fail
    refine (hl _).mono ?_
    rintro e w7 ⟨rfl, hb8⟩
    go_wp2
    go_ret
    exact ⟨rfl, (hb6.trans (hb7.mono hb6.size)).trans (hb8.mono (hb6.trans (hb7.mono hb6.size)).size)⟩
  · have hl := fun W => lives_any W
    clear HFIT t1' t2' B1 hld2
    have hk01 : o'.kind < 0 ∨ (¬ o'.kind < 0 ∧ o'.kind > 255) := by rw [HKIND.out]; omega
    rcases hk01 with hk0 | ⟨hk0, hk1⟩
    all_goals
      go_wp2_with fail
      refine (hl _).mono ?_
      rintro e w7 ⟨rfl, hb8⟩
      go_wp2
      go_ret
      exact ⟨rfl, hb2.trans (hb8.mono hb2.size)⟩
end Go.Proofs.YtmbpnkacggngkaaGreatDoor
