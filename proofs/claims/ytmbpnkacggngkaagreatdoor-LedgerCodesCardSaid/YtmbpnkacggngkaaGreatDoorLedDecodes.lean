/- THE WALK of LedgerDecodes. -/
import Derived.Test.YtmbpnkacggngkaaGreatDoorLedLives
import Derived.Test.YtmbpnkacggngkaaGreatDoorLedEnc
namespace Go.Proofs.YtmbpnkacggngkaaGreatDoor
open Go.RowKit Mem Led

theorem blk_vs {w : World} {g size n : Nat} {cs : List Value} {t : TypeId} (h : Blk w g cs t) (hn : cs.length = n * size) : Vs w w.heap.size size (some ⟨g, 0, none⟩) n cs :=
  ⟨hn, fun j u hj => ⟨_, rfl, h.lt, by rw [zero_add_, h.cell j]; exact hj⟩⟩
/-- An operation in a variable of its own. -/
theorem new_op (w : World) (cs : List Value) (h : cs.length = 24) (h1 : ∀ v ∈ cs, v.oneCell' = true) :
    ∃ wn, (storeOp (.pointer (some ⟨w.heap.size, 0, none⟩)) (.agg cs.toArray)).run Tryz.prog (w.alloc (.cells #[.int .i64 0, .int .i64 0, .string ⟨#[]⟩, .int .i64 0, .string ⟨#[]⟩, .string ⟨#[]⟩, .int .i64 0, .slice none 0 0, .string ⟨#[]⟩, .string ⟨#[]⟩, .int .i64 0, .bool false, .string ⟨#[]⟩, .string ⟨#[]⟩, .int .i64 0, .int .i64 0, .string ⟨#[]⟩, .string ⟨#[]⟩, .string ⟨#[]⟩, .int .i64 0, .int .i64 0, .string ⟨#[]⟩, .int .i64 0, .slice none 0 0] 47)) = .ok () wn ∧ Blk wn w.heap.size cs 47 ∧ Below w.heap.size w wn := by
  have bn := Blk.new w (opCells noOp (.slice none 0 0) (.slice none 0 0)) 47
  obtain ⟨hs1, B3⟩ := store_op bn rfl h h1
  have hcn : Chg [] w ((w.alloc (.cells (opCells noOp (.slice none 0 0) (.slice none 0 0)).toArray 47)).setCells w.heap.size 0 cs) := ((Chg.refl _ _).alloc _).setCells _ (.inr (Nat.le_refl _))
  exact ⟨_, hs1, B3, hcn.below (fun _ h => by cases h)⟩
set_option maxRecDepth 100000 in
set_option maxHeartbeats 8000000 in
theorem decodes_at (A : Option Addr) (n c m : Nat) (l' : List UInt8) (w : World) (hd : Bs w w.heap.size A m l') (hm : m ≤ 700) (hmc : m ≤ c) (H : (n ≤ 700 ∧ m = n) ∨ (700 < n ∧ m = 700 ∧ n ≤ c)) :
    Calls Tryz.prog 9 #[.slice A n c] w fun e w' => e = .returned (.bool true) ∧ Below w.heap.size w w' := by
  have hlen := hd.len
  have hdec := decode_any A m c l' w hd hmc (by omega)
  have hop := rop_ok (l', false)
  have henc := rop_enc (l := l')
  unfold Decoded at hdec
  generalize rop (l', false) = q at *
  obtain ⟨o, st⟩ := q
  dsimp only at *
  by_cases hbad : Bad st = true
  · simp only [hbad, if_true] at hdec
    rcases H with ⟨h1, h2⟩ | ⟨h1, h2, h3⟩
    all_goals
      subst h2
      go_enter Tryz.func9, Tryz.ntmps9
      go_wp2_with fail
      refine hdec.mono ?_
      rintro e w1 ⟨hb1, rfl⟩
      have hbn := Blk.new w1 (opCells noOp (.slice none 0 0) (.slice none 0 0)) 47
      obtain ⟨hs1, B1⟩ := store_op hbn rfl (vs := opCells noOp (.slice none 0 0) (.slice none 0 0)) rfl (opCells_one _ _ _ _ _ _ _)
      obtain ⟨w2, hw2⟩ : ∃ w2, (w1.alloc (.cells (opCells noOp (.slice none 0 0) (.slice none 0 0)).toArray 47)).setCells w1.heap.size 0 (opCells noOp (.slice none 0 0) (.slice none 0 0)) = w2 := ⟨_, rfl⟩
      have hb2 : Below w1.heap.size w1 w2 := by
        rw [← hw2]
        exact (((Chg.refl ([] : List Nat) w1).alloc _).setCells _ (.inr (Nat.le_refl _))).below (fun _ h => by cases h)
      rw [hw2] at hs1 B1
      have m0 : w2.cell? ⟨w1.heap.size, 0, none⟩ = some (.int .i64 0) := B1.cell 0
      have hbw : Below w.heap.size w w2 := hb1.trans (hb2.mono hb1.size)
      have hl := lives_any w2
      clear hw2 hbn B1 hdec
      unfold opCells noOp at hs1 ⊢
      simp only [nm, tx, show str [] = ⟨#[]⟩ from rfl] at hs1 ⊢
      go_wp2_with fail
      refine hl.mono ?_
      rintro e w3 ⟨rfl, hb3⟩
      go_wp2
      go_ret
      exact ⟨rfl, hbw.trans (hb3.mono hbw.size)⟩
  · simp only [hbad] at hdec
    have hen := henc hbad
    obtain ⟨K, hK⟩ : ∃ K : Nat, o.kind = K := ⟨o.kind.toNat, by omega⟩
    have hKl : K ≤ 9223372036854775807 := by omega
    rcases H with ⟨h1, h2⟩ | ⟨h1, h2, h3⟩
    all_goals
      subst h2
      go_enter Tryz.func9, Tryz.ntmps9
      go_wp2_with fail
      refine hdec.mono ?_
      rintro e w1 ⟨hb1, cs, ⟨gs, gk, n1, m1, rfl, g1, g2, g3, g4, g5, g6⟩, rfl⟩
      obtain ⟨w2, hs1, B1, hb2⟩ := new_op w1 (opCells o (.slice (some ⟨gs, 0, none⟩) n1 n1) (.slice (some ⟨gk, 0, none⟩) m1 m1)) rfl (opCells_one _ _ _ _ _ _ _)
      have hbw : Below w.heap.size w w2 := hb1.trans (hb2.mono hb1.size)
      have hld := load_op B1.drew rfl
      have hvs : Vs w2.drew w2.drew.heap.size 1 (some ⟨gs, 0, none⟩) n1 (o.entry.sels.map tx) := blk_vs ((g3.below hb2).drew) (by simp [g5])
      have hvk : Vs w2.drew w2.drew.heap.size 2 (some ⟨gk, 0, none⟩) m1 (jv o.bundle.keys) := blk_vs ((g4.below hb2).drew) (by rw [jv_length, g6])
      have henc2 := encode_any o hop.1 K hK hKl (some ⟨gs, 0, none⟩) n1 n1 (some ⟨gk, 0, none⟩) m1 m1 w2.drew hvs hvk (Nat.le_refl _) (Nat.le_refl _)
      rw [hen] at henc2
      have hcb := run_string (P := Tryz.prog) (hd.below hbw.drew) 62 5 9 c Tryz.underlying62 Tryz.underlying5 Tryz.underlying9
      clear hdec hvs hvk B1 hb2 g3 g4
      generalize (opCells o (.slice (some ⟨gs, 0, none⟩) n1 n1) (.slice (some ⟨gk, 0, none⟩) m1 m1)).toArray = CS at *
      go_wp2_with fail
      go_region_with (first | (go_at_call 19; refine henc2.mono ?_; rintro e w3 ⟨v, rfl, hown, hb3⟩; obtain ⟨A3, c3, rfl, r1, r2⟩ := own_form hown; have hcv := run_string (P := Tryz.prog) (Bs.of_own hown) 62 5 9 c3 Tryz.underlying62 Tryz.underlying5 Tryz.underlying9; rw [hlen] at hcv; have hbw3 : Below w.heap.size w w3 := hbw.drew.trans (hb3.mono hbw.size); have hcb3 := run_string (P := Tryz.prog) (hd.below hbw3) 62 5 9 c Tryz.underlying62 Tryz.underlying5 Tryz.underlying9) | (go_at_call 12; refine (lives_any w3).mono ?_; rintro e w4 ⟨rfl, hb4⟩))
      all_goals
        go_wp2
        go_ret
        exact ⟨rfl, hbw3.trans (hb4.mono hbw3.size)⟩
theorem ledgerDecodes_in (A : Option Addr) (n c : Nat) (l : List UInt8) (w : World) (hd : Bs w w.heap.size A n l) (hn : n ≤ c) (_ : c ≤ 9223372036854775807) : Calls Tryz.prog 9 #[.slice A n c] w fun e w' => e = .returned (.bool true) ∧ Below w.heap.size w w' := by
  by_cases h : n ≤ 700
  · exact decodes_at A n c n l w hd h hn (.inl ⟨h, rfl⟩)
  · exact decodes_at A n c 700 (l.take 700) w (hd.take (by omega)) (Nat.le_refl _) (by omega) (.inr ⟨by omega, rfl, hn⟩)
end Go.Proofs.YtmbpnkacggngkaaGreatDoor
