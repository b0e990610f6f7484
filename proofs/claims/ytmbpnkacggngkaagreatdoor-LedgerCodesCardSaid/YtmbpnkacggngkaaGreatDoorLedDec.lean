/- THE WALK of Decode. -/
import Derived.Test.YtmbpnkacggngkaaGreatDoorLedOpR
namespace Go.Proofs.YtmbpnkacggngkaaGreatDoor
open Go.RowKit Mem Led

theorem size_op : (Tryz.prog.info? 47).map (·.size) = some 24 := by kernel_rfl
/-- A whole operation, read and written, behind names that the walk does not open. -/
def loadOp (x : Value) : Sem Value := Instr.loadAt 47 x
def storeOp (x v : Value) : Sem Unit := Instr.storeAt 47 x v
theorem named_load_op (x : Value) : Instr.loadAt 47 x = loadOp x := rfl
theorem named_store_op (x v : Value) : Instr.storeAt 47 x v = storeOp x v := rfl
attribute [go_sem ↓] named_load_op named_store_op
theorem Blk.has {w : World} {g n : Nat} {cs : List Value} {t : TypeId} (h : Blk w g cs t) (hn : cs.length = n) : Has w g 0 n := fun j hj => by
  rw [Nat.zero_add, h.cell j, List.getElem?_eq_getElem (by omega)]
  rfl
theorem Blk.arr {w : World} {g n : Nat} {cs : List Value} {t : TypeId} (h : Blk w g cs t) (hn : cs.length = n) : arr w g 0 n = cs.toArray := (arr_block (n := n) h (by simpa using hn)).1
theorem load_op {w : World} {g : Nat} {cs : List Value} {t : TypeId} (h : Blk w g cs t) (hn : cs.length = 24) : (loadOp (.pointer (some ⟨g, 0, none⟩))).run Tryz.prog w = .ok (.agg cs.toArray) w := by
  have := run_load_arr (P := Tryz.prog) w 47 g 0 24 _ Tryz.underlying47 rfl size_op (h.has hn)
  rw [h.arr hn] at this
  exact this
theorem setCells_blk : ∀ (vs : List Value) (w : World) (g k : Nat) (cs : List Value) (t : TypeId), Blk w g cs t → k + vs.length ≤ cs.length → Blk (w.setCells g k vs) g (cs.take k ++ vs ++ cs.drop (k + vs.length)) t
  | [], w, g, k, cs, t, h, _ => by simpa [World.setCells] using h
  | v :: vs, w, g, k, cs, t, h, hk => by
    have ih := setCells_blk vs (w.setCell ⟨g, k, none⟩ v) g (k + 1) (cs.set k v) t (h.set k v) (by simp at hk ⊢; omega)
    have e : (cs.set k v).take (k + 1) ++ vs ++ (cs.set k v).drop (k + 1 + vs.length) = cs.take k ++ v :: vs ++ cs.drop (k + (v :: vs).length) := by
      have hk' : k < cs.length := by simp at hk; omega
      rw [List.take_set, List.drop_set_of_lt (by omega), List.length_cons, show k + 1 + vs.length = k + (vs.length + 1) by omega]
      have : (cs.take (k + 1)).set k v = cs.take k ++ [v] := by
        rw [← List.take_append_getElem hk', List.set_append_right _ _ (by rw [List.length_take]; omega)]
        simp [Nat.min_eq_left (Nat.le_of_lt hk')]
      rw [this]
      simp
    rw [e] at ih
    exact ih
theorem store_op {w : World} {g : Nat} {cs vs : List Value} {t : TypeId} (h : Blk w g cs t) (hn : cs.length = 24) (hv : vs.length = 24) (h1 : ∀ v ∈ vs, v.oneCell' = true) :
    (storeOp (.pointer (some ⟨g, 0, none⟩)) (.agg vs.toArray)).run Tryz.prog w = .ok () (w.setCells g 0 vs) ∧ Blk (w.setCells g 0 vs) g vs t := by
  have h2 := run_store_arr (P := Tryz.prog) w 47 g 0 24 size_op vs.toArray ⟨by simpa using hv, by simpa using h1⟩ (h.has hn) (fun j _ => h.froz _)
  have h3 := setCells_blk vs w g 0 cs t h (by omega)
  simp [hv, ← hn] at h3
  exact ⟨h2, h3⟩
theorem results_arr2 {P : Program} {fn : Func} {p s : Tmp} {ty : TypeId} (h : fn.results = #[.cell p ty, .tmp s]) (tmps : Array Value) (w : World) (g o n : Nat) (d : TypeDesc)
    (hp : tmps.getD p undef = .pointer (some ⟨g, o, none⟩)) (hu : P.underlying ty = some d) (hd : (match d with | .struct _ | .array _ _ => true | _ => false) = true) (hi : (P.info? ty).map (·.size) = some n) (hh : Has w g o n) :
    (results fn tmps).run P w = .ok (.tuple #[.agg (Mem.arr w g o n), tmps.getD s undef]) w := by
  have hp' : tmps[p]?.getD undef = .pointer (some ⟨g, o, none⟩) := by simpa using hp
  have hl := run_load_arr (P := P) w ty g o n d hu hd hi hh
  simp only [Instr.loadAt, Instr.sureAddr, Sem.run_bind, Sem.run_pure, Result.andThen_ok] at hl
  simp [results, h, hp', asAddr, hl]
theorem opCells_one (o : Led.Op) (A B : Option Addr) (n c n' c' : Nat) : ∀ v ∈ opCells o (.slice A n c) (.slice B n' c'), v.oneCell' = true := by
  intro v hv
  simp only [opCells, List.mem_cons, List.not_mem_nil, or_false] at hv
  rcases hv with rfl | rfl | rfl | rfl | rfl | rfl | rfl | rfl | rfl | rfl | rfl | rfl | rfl | rfl | rfl | rfl | rfl | rfl | rfl | rfl | rfl | rfl | rfl | rfl <;> rfl

/-- An operation in memory of its own. -/
structure OpAt (w : World) (o : Led.Op) (cs : List Value) : Prop where
  ex : ∃ gs gk n m, cs = opCells o (.slice (some ⟨gs, 0, none⟩) n n) (.slice (some ⟨gk, 0, none⟩) m m) ∧ n < 256 ∧ m < 256 ∧ Blk w gs (o.entry.sels.map tx) 9 ∧ Blk w gk (jv o.bundle.keys) 54 ∧ o.entry.sels.length = n ∧ o.bundle.keys.length = m
def Bad (s : St) : Bool := s.2 || decide (0 < s.1.length)
/-- What Decode tells. -/
def Decoded (w : World) (l : Txt) (e : Ending) (w' : World) : Prop :=
  Below w.heap.size w w' ∧ if Bad (rop (l, false)).2 then e = .returned (.tuple #[.agg (opCells noOp (.slice none 0 0) (.slice none 0 0)).toArray, .int .i64 2])
    else ∃ cs, OpAt w' (rop (l, false)).1 cs ∧ e = .returned (.tuple #[.agg cs.toArray, .int .i64 0])
theorem zero_op : (Tryz.prog.info? 47).map (fun i => i.zero) = some (some (.agg (opCells noOp (.slice none 0 0) (.slice none 0 0)).toArray)) := by kernel_rfl

theorem rtext_lt (s : St) : (rtext s).1.length < 65536 := by
  have h := rnum_small (k := 2) s (by omega)
  unfold rtext
  split
  · simp
  · rw [List.length_take]
    omega
theorem reach_all {α : Type} {f : St → α × St} {P : α → Prop} (h : ∀ s, P (f s).1) : ∀ (n : Nat) (s : St), ∀ x ∈ (reach f n s).1, P x
  | 0, _, x, hx => by simp [reach] at hx
  | n + 1, s, x, hx => by
    simp only [reach, List.mem_cons] at hx
    rcases hx with rfl | hx
    · exact h s
    · exact reach_all h n _ x hx
theorem rmany_lt {α : Type} (f : St → α × St) (s : St) : (rmany f s).1.length < 256 := by
  have h := rnum_small (k := 1) s (by omega)
  unfold rmany
  rw [reach_length]
  omega
theorem rop_ok (s : St) : (rop s).1.Ok ∧ 0 ≤ (rop s).1.kind ∧ (rop s).1.kind < 256 := by
  have ht : ∀ s, (rtext s).1.length ≤ 9223372036854775807 := fun s => by have := rtext_lt s; omega
  have hk := rnum_small (k := 1) s (by omega)
  unfold rop
  dsimp only
  generalize rnum 1 s = a1 at *
  generalize rnum 8 a1.2 = a2 at *
  have t3 := ht a2.2
  generalize rtext a2.2 = a3 at *
  generalize rnum 8 a3.2 = a4 at *
  have t5 := ht a4.2
  generalize rtext a4.2 = a5 at *
  have t6 := ht a5.2
  generalize rtext a5.2 = a6 at *
  generalize rnum 8 a6.2 = a7 at *
  have m8 := rmany_lt rtext a7.2
  have t8 : ∀ x ∈ (rmany rtext a7.2).1, x.length ≤ 9223372036854775807 := reach_all ht _ _
  generalize rmany rtext a7.2 = a8 at *
  have t9 := ht a8.2
  generalize rtext a8.2 = a9 at *
  have t10 := ht a9.2
  generalize rtext a9.2 = a10 at *
  generalize rnum 8 a10.2 = a11 at *
  generalize rnum 8 a11.2 = a12 at *
  have t13 := ht (late a12.1 a12.2)
  generalize rtext (late a12.1 a12.2) = a13 at *
  have t14 := ht a13.2
  generalize rtext a13.2 = a14 at *
  generalize rnum 8 a14.2 = a15 at *
  generalize rnum 8 a15.2 = a16 at *
  have t17 := ht a16.2
  generalize rtext a16.2 = a17 at *
  have t18 := ht a17.2
  generalize rtext a17.2 = a18 at *
  have t19 := ht a18.2
  generalize rtext a18.2 = a19 at *
  generalize rnum 8 a19.2 = a20 at *
  generalize rnum 8 a20.2 = a21 at *
  have t22 := ht a21.2
  generalize rtext a21.2 = a22 at *
  generalize rnum 8 a22.2 = a23 at *
  have m24 := rmany_lt rkey a23.2
  have t24 : ∀ k ∈ (rmany rkey a23.2).1, k.kid.length ≤ 9223372036854775807 ∧ k.x.length ≤ 9223372036854775807 := reach_all (P := fun k : Jwk => k.kid.length ≤ 9223372036854775807 ∧ k.x.length ≤ 9223372036854775807) (fun s => ⟨ht _, ht _⟩) _ _
  generalize rmany rkey a23.2 = a24 at *
  exact ⟨⟨t3, t5, t6, m8, t8, t9, t10, t13, t14, t17, t18, t19, t22, m24, t24⟩, hk.1, hk.2⟩
/-- What was decoded is encoded as the same. -/
theorem rop_enc {l : Txt} (h : ¬ Bad (rop (l, false)).2 = true) : enc (rop (l, false)).1 = l := by
  have hg := got_op (l, false)
  unfold Bad at h
  simp at h
  obtain ⟨_, h2⟩ := hg h.1
  rw [h.2, List.append_nil] at h2
  exact h2.symm

set_option maxRecDepth 100000 in
set_option maxHeartbeats 4000000 in
theorem decode_any (A : Option Addr) (n c : Nat) (l : Txt) (w : World) (hd : Bs w w.heap.size A n l) (hn : n ≤ c) (hl : l.length ≤ 140737488355328) :
    Calls Tryz.prog 18 #[.slice A n c] w (Decoded w l) := by
  obtain ⟨W, hW⟩ : ∃ W, ((w.alloc (.cells (opCells noOp (.slice none 0 0) (.slice none 0 0)).toArray 47)).alloc (.cells #[.slice A n c, .bool true, .bool false] 86)).alloc (.cells (opCells noOp (.slice none 0 0) (.slice none 0 0)).toArray 47) = W := ⟨_, rfl⟩
  have b0 : Blk W w.heap.size (opCells noOp (.slice none 0 0) (.slice none 0 0)) 47 := by rw [← hW]; exact ((Blk.new _ _ _).alloc _).alloc _
  have b1 : Blk W (w.heap.size + 1) [.slice A n c, .bool true, .bool false] 86 := by
    have := Blk.new (w.alloc (.cells (opCells noOp (.slice none 0 0) (.slice none 0 0)).toArray 47)) [.slice A n c, .bool true, .bool false] 86
    rw [← hW]
    exact Blk.alloc (by simpa using this) _
  have b2 : Blk W (w.heap.size + 2) (opCells noOp (.slice none 0 0) (.slice none 0 0)) 47 := by
    have := Blk.new ((w.alloc (.cells (opCells noOp (.slice none 0 0) (.slice none 0 0)).toArray 47)).alloc (.cells #[.slice A n c, .bool true, .bool false] 86)) (opCells noOp (.slice none 0 0) (.slice none 0 0)) 47
    rw [← hW]
    simpa using this
  have hbW : Below w.heap.size w W := by rw [← hW]; exact (((Below.refl _ _).alloc (Nat.le_refl _) _).alloc (by simp) _).alloc (by simp; omega) _
  have hzW : W.heap.size = w.heap.size + 3 := by rw [← hW]; simp
  have hrd : Rd W w.heap.size (w.heap.size + 1) (l, false) := ⟨⟨A, n, c, b1, hn, hd.below hbW⟩, by omega⟩
  have hop := opr_any w.heap.size (w.heap.size + 1) (w.heap.size + 2) 47 (l, false) hrd b2 (by omega) (by omega) hl
  unfold ReadOp at hop
  unfold Decoded
  generalize rop (l, false) = q at *
  obtain ⟨o, l2, sh⟩ := q
  dsimp only at *
  have HW := Lib.hid hW
  unfold opCells noOp at HW
  simp only [nm, tx, show str [] = ⟨#[]⟩ from rfl] at HW
  clear hW b1 b2 hrd
  by_cases hbad : Bad (l2, sh) = true
  · simp only [hbad, if_true]
    go_enter Tryz.func18, Tryz.ntmps18
    go_wp2_with fail
    rw [HW.out]
    refine hop.mono ?_
    rintro e w1 ⟨rfl, hr, hc, gs, gk, n1, m1, z1, z2, h1, h2, h3, h4, h5, h6, h7⟩
    obtain ⟨A2, n2, c2, k1, k2, k3⟩ := hr.ex
    have bR := b0.chg hc (by simp)
    have hz1 := hc.size
    have hb1 : Below w.heap.size w w1 := hbW.trans (hc.below' (B := w.heap.size) (by omega) (by simp))
    have c2' : w1.cell? ⟨w.heap.size + 1, 2, none⟩ = some (.bool sh) := k1.cell 2
    have c0' : w1.cell? ⟨w.heap.size + 1, 0, none⟩ = some (.slice A2 n2 c2) := k1.cell 0
    have hl2 : l2.length = n2 := k3.len
    have hop2 : OpAt w1 o (opCells o (.slice (some ⟨gs, 0, none⟩) n1 n1) (.slice (some ⟨gk, 0, none⟩) m1 m1)) := ⟨gs, gk, n1, m1, rfl, h2, h3, h4, h5, h6, h7⟩
    have hld := load_op h1 rfl
    have hst0 := store_op bR rfl (vs := opCells noOp (.slice none 0 0) (.slice none 0 0)) rfl (opCells_one _ _ _ _ _ _ _)
    have hst1 := store_op bR rfl (vs := opCells o (.slice (some ⟨gs, 0, none⟩) n1 n1) (.slice (some ⟨gk, 0, none⟩) m1 m1)) rfl (opCells_one _ _ _ _ _ _ _)
    obtain ⟨wa, hwa⟩ : ∃ wa, w1.setCells w.heap.size 0 (opCells noOp (.slice none 0 0) (.slice none 0 0)) = wa := ⟨_, rfl⟩
    obtain ⟨wb, hwb⟩ : ∃ wb, w1.setCells w.heap.size 0 (opCells o (.slice (some ⟨gs, 0, none⟩) n1 n1) (.slice (some ⟨gk, 0, none⟩) m1 m1)) = wb := ⟨_, rfl⟩
    have hca : Chg [w.heap.size] w1 wa := by rw [← hwa]; exact (Chg.refl _ _).setCells _ (.inl (by simp))
    have hcb : Chg [w.heap.size] w1 wb := by rw [← hwb]; exact (Chg.refl _ _).setCells _ (.inl (by simp))
    rw [hwa] at hst0
    rw [hwb] at hst1
    obtain ⟨s0, B0⟩ := hst0
    obtain ⟨s1, B1⟩ := hst1
    have hba : Below w.heap.size w wa := hb1.trans (hca.below' (B := w.heap.size) (by omega) (by simp))
    have hbb : Below w.heap.size w wb := hb1.trans (hcb.below' (B := w.heap.size) (by omega) (by simp))
    have hopb : OpAt wb o (opCells o (.slice (some ⟨gs, 0, none⟩) n1 n1) (.slice (some ⟨gk, 0, none⟩) m1 m1)) := ⟨gs, gk, n1, m1, rfl, h2, h3, h4.chg hcb (by simp; omega), h5.chg hcb (by simp; omega), h6, h7⟩
    have Rb0 := B0.has (n := 24) rfl
    have Ra0 := B0.arr (n := 24) rfl
    have Rb1 := B1.has (n := 24) rfl
    have Ra1 := B1.arr (n := 24) rfl
    unfold opCells noOp at s0
    simp only [nm, tx, show str [] = ⟨#[]⟩ from rfl] at s0
    clear hop hr hc b0 bR k1 k3 B0 B1 hwa hwb hca hcb h1 h4 h5 HW hop2
    generalize hCS : opCells o (.slice (some ⟨gs, 0, none⟩) n1 n1) (.slice (some ⟨gk, 0, none⟩) m1 m1) = CS at *
    clear hCS
    clear hld s1 hopb Rb1 Ra1
    have hres : Below w.heap.size w wa ∧ Ending.returned (Value.tuple #[.agg (arr wa w.heap.size 0 24), .int .i64 2]) = Ending.returned (.tuple #[.agg (opCells noOp (.slice none 0 0) (.slice none 0 0)).toArray, .int .i64 2]) := ⟨hba, by rw [Ra0]⟩
    have HR := Lib.hid hres
    clear hres Ra0
    cases sh
    · have hz : 0 < n2 := by
        unfold Bad at hbad
        simp at hbad
        omega
      go_wp2
      refine bodyPost_ret (results_arr2 (P := Tryz.prog) Tryz.results18 _ _ w.heap.size 0 24 _ rfl Tryz.underlying47 rfl size_op Rb0) rfl ?_
      exact HR.out
    · go_wp2
      refine bodyPost_ret (results_arr2 (P := Tryz.prog) Tryz.results18 _ _ w.heap.size 0 24 _ rfl Tryz.underlying47 rfl size_op Rb0) rfl ?_
      exact HR.out
  · simp only [hbad]
    go_enter Tryz.func18, Tryz.ntmps18
    go_wp2_with fail
    rw [HW.out]
    refine hop.mono ?_
    rintro e w1 ⟨rfl, hr, hc, gs, gk, n1, m1, z1, z2, h1, h2, h3, h4, h5, h6, h7⟩
    obtain ⟨A2, n2, c2, k1, k2, k3⟩ := hr.ex
    have bR := b0.chg hc (by simp)
    have hz1 := hc.size
    have hb1 : Below w.heap.size w w1 := hbW.trans (hc.below' (B := w.heap.size) (by omega) (by simp))
    have c2' : w1.cell? ⟨w.heap.size + 1, 2, none⟩ = some (.bool sh) := k1.cell 2
    have c0' : w1.cell? ⟨w.heap.size + 1, 0, none⟩ = some (.slice A2 n2 c2) := k1.cell 0
    have hl2 : l2.length = n2 := k3.len
    have hop2 : OpAt w1 o (opCells o (.slice (some ⟨gs, 0, none⟩) n1 n1) (.slice (some ⟨gk, 0, none⟩) m1 m1)) := ⟨gs, gk, n1, m1, rfl, h2, h3, h4, h5, h6, h7⟩
    have hld := load_op h1 rfl
    have hst0 := store_op bR rfl (vs := opCells noOp (.slice none 0 0) (.slice none 0 0)) rfl (opCells_one _ _ _ _ _ _ _)
    have hst1 := store_op bR rfl (vs := opCells o (.slice (some ⟨gs, 0, none⟩) n1 n1) (.slice (some ⟨gk, 0, none⟩) m1 m1)) rfl (opCells_one _ _ _ _ _ _ _)
    obtain ⟨wa, hwa⟩ : ∃ wa, w1.setCells w.heap.size 0 (opCells noOp (.slice none 0 0) (.slice none 0 0)) = wa := ⟨_, rfl⟩
    obtain ⟨wb, hwb⟩ : ∃ wb, w1.setCells w.heap.size 0 (opCells o (.slice (some ⟨gs, 0, none⟩) n1 n1) (.slice (some ⟨gk, 0, none⟩) m1 m1)) = wb := ⟨_, rfl⟩
    have hca : Chg [w.heap.size] w1 wa := by rw [← hwa]; exact (Chg.refl _ _).setCells _ (.inl (by simp))
    have hcb : Chg [w.heap.size] w1 wb := by rw [← hwb]; exact (Chg.refl _ _).setCells _ (.inl (by simp))
    rw [hwa] at hst0
    rw [hwb] at hst1
    obtain ⟨s0, B0⟩ := hst0
    obtain ⟨s1, B1⟩ := hst1
    have hba : Below w.heap.size w wa := hb1.trans (hca.below' (B := w.heap.size) (by omega) (by simp))
    have hbb : Below w.heap.size w wb := hb1.trans (hcb.below' (B := w.heap.size) (by omega) (by simp))
    have hopb : OpAt wb o (opCells o (.slice (some ⟨gs, 0, none⟩) n1 n1) (.slice (some ⟨gk, 0, none⟩) m1 m1)) := ⟨gs, gk, n1, m1, rfl, h2, h3, h4.chg hcb (by simp; omega), h5.chg hcb (by simp; omega), h6, h7⟩
    have Rb0 := B0.has (n := 24) rfl
    have Ra0 := B0.arr (n := 24) rfl
    have Rb1 := B1.has (n := 24) rfl
    have Ra1 := B1.arr (n := 24) rfl
    unfold opCells noOp at s0
    simp only [nm, tx, show str [] = ⟨#[]⟩ from rfl] at s0
    clear hop hr hc b0 bR k1 k3 B0 B1 hwa hwb hca hcb h1 h4 h5 HW hop2
    generalize hCS : opCells o (.slice (some ⟨gs, 0, none⟩) n1 n1) (.slice (some ⟨gk, 0, none⟩) m1 m1) = CS at *
    clear hCS
    clear s0 Rb0 Ra0
    have hres : Below w.heap.size w wb ∧ ∃ cs, OpAt wb o cs ∧ Ending.returned (Value.tuple #[.agg (arr wb w.heap.size 0 24), .int .i64 0]) = Ending.returned (.tuple #[.agg cs.toArray, .int .i64 0]) := ⟨hbb, CS, hopb, by rw [Ra1]⟩
    have HR := Lib.hid hres
    clear hres Ra1
    unfold Bad at hbad
    simp at hbad
    obtain ⟨hb1', hb2'⟩ := hbad
    subst hb1'
    have hz : n2 = 0 := by rw [← hl2, hb2']; rfl
    subst hz
    go_wp2
    refine bodyPost_ret (results_arr2 (P := Tryz.prog) Tryz.results18 _ _ w.heap.size 0 24 _ rfl Tryz.underlying47 rfl size_op Rb1) rfl ?_
    exact HR.out
end Go.Proofs.YtmbpnkacggngkaaGreatDoor
