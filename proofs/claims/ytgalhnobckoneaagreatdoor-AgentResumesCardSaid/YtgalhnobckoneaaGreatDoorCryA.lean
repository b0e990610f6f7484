/- WORDS OF 64 BITS, whatever they are: blocks of such words. -/
import Derived.Test.YtgalhnobckoneaaGreatDoorCryO
import Derived.Test.YtgalhnobckoneaaGreatDoorMixC
namespace Go.Proofs.YtgalhnobckoneaaGreatDoor
open Go.RowKit Mem
namespace Cry

/-- Words as values. -/
def us (l : List Int) : List Value := l.map fun x => Value.int .u64 x
theorem us_length (l : List Int) : (us l).length = l.length := by simp [us]
theorem us_at (l : List Int) {k : Nat} (h : k < l.length) : (us l)[k]? = some (.int .u64 (l.getD k 0)) := by simp [us, h]
theorem us_set (l : List Int) (k : Nat) (x : Int) : (us l).set k (.int .u64 x) = us (l.set k x) := by simp [us, List.map_set]
theorem us_one (l : List Int) : ∀ u ∈ us l, u.oneCell' = true := by
  intro u hu
  simp only [us, List.mem_map] at hu
  obtain ⟨b, _, rfl⟩ := hu
  rfl
/-- Bytes as values, whatever they are. -/
def i8 (l : List Int) : List Value := l.map fun x => Value.int .u8 x
theorem i8_length (l : List Int) : (i8 l).length = l.length := by simp [i8]
theorem i8_at (l : List Int) {k : Nat} (h : k < l.length) : (i8 l)[k]? = some (.int .u8 (l.getD k 0)) := by simp [i8, h]
theorem i8_push (l : List Int) (x : Int) : i8 l ++ [.int .u8 x] = i8 (l ++ [x]) := by simp [i8]
theorem i8_set (l : List Int) (k : Nat) (x : Int) : (i8 l).set k (.int .u8 x) = i8 (l.set k x) := by simp [i8, List.map_set]
theorem i8_app (a b : List Int) : i8 a ++ i8 b = i8 (a ++ b) := by simp [i8]
theorem i8_one (l : List Int) : ∀ u ∈ i8 l, u.oneCell' = true := by
  intro u hu
  simp only [i8, List.mem_map] at hu
  obtain ⟨b, _, rfl⟩ := hu
  rfl
theorem i8_bv (l : List UInt8) : bv l = i8 (l.map fun b => (b.toNat : Int)) := by simp [bv, i8]
/-- A value of n words. -/
def Uv (n : Nat) (v : Value) : Prop := ∃ xs : List Int, xs.length = n ∧ v = .agg (us xs).toArray
/-- A block of n words. -/
def Ub (w : World) (g n : Nat) (t : TypeId) : Prop := ∃ xs : List Int, xs.length = n ∧ Blk w g (us xs) t
section
variable {w w' : World} {g n : Nat} {t : TypeId}
theorem Ub.lt (h : Ub w g n t) : g < w.heap.size := by obtain ⟨_, _, h⟩ := h; exact h.lt
theorem Ub.cell (h : Ub w g n t) {k : Nat} (hk : k < n) : ∃ x : Int, w.cell? ⟨g, k, none⟩ = some (.int .u64 x) := by
  obtain ⟨xs, hl, h⟩ := h
  exact ⟨_, (h.cell k).trans (us_at xs (by omega))⟩
theorem Ub.froz (h : Ub w g n t) (k : Nat) : w.frozen? ⟨g, k, none⟩ = false := by obtain ⟨_, _, h⟩ := h; exact h.froz k
theorem Ub.set (h : Ub w g n t) (k : Nat) (x : Int) : Ub (w.setCell ⟨g, k, none⟩ (.int .u64 x)) g n t := by
  obtain ⟨xs, hl, h⟩ := h
  exact ⟨xs.set k x, by simpa using hl, by rw [← us_set]; exact h.set k _⟩
theorem Ub.set_ne (h : Ub w g n t) {p : Addr} (hp : g ≠ p.block) (v : Value) : Ub (w.setCell p v) g n t := by
  obtain ⟨xs, hl, h⟩ := h
  exact ⟨xs, hl, h.set_ne hp v⟩
theorem Ub.chg {S : List Nat} (h : Ub w g n t) (hc : Chg S w w') (hS : g ∉ S) : Ub w' g n t := by
  obtain ⟨xs, hl, h⟩ := h
  exact ⟨xs, hl, h.chg hc hS⟩
theorem Ub.below (h : Ub w g n t) (hb : Below w.heap.size w w') : Ub w' g n t := by
  obtain ⟨xs, hl, h⟩ := h
  exact ⟨xs, hl, h.below hb⟩
theorem Ub.alloc (h : Ub w g n t) (o : Obj) : Ub (w.alloc o) g n t := by
  obtain ⟨xs, hl, h⟩ := h
  exact ⟨xs, hl, h.alloc o⟩
theorem Ub.new (w : World) (xs : List Int) (t : TypeId) : Ub (w.alloc (.cells (us xs).toArray t)) w.heap.size xs.length t := ⟨xs, rfl, Blk.new _ _ _⟩
theorem Blk.ub {xs : List Int} (h : Blk w g (us xs) t) (hl : xs.length = n) : Ub w g n t := ⟨xs, hl, h⟩
end
theorem size_A3 : (Tryz.prog.info? 228).map (·.size) = some 3 := by kernel_rfl
/-- Three numbers, read, behind a name that the walk does not open. -/
def loadA3 (x : Value) : Sem Value := Instr.loadAt 228 x
theorem named_load_A3 (x : Value) : Instr.loadAt 228 x = loadA3 x := rfl
attribute [go_sem ↓] named_load_A3
theorem load_A3 {w : World} {g o : Nat} {a b c : Nat} {cs : List Value} {t : TypeId} (h : Blk w g cs t) (h0 : cs[o]? = some (.int .i64 (a : Int))) (h1 : cs[o + 1]? = some (.int .i64 (b : Int))) (h2 : cs[o + 2]? = some (.int .i64 (c : Int))) :
    (loadA3 (.pointer (some ⟨g, o, none⟩))).run Tryz.prog w = .ok (.agg #[.int .i64 (a : Int), .int .i64 (b : Int), .int .i64 (c : Int)]) w := by
  exact load_cells (P := Tryz.prog) (T := 228) (k := 3) Tryz.underlying228 rfl size_A3 (cs := [.int .i64 (a : Int), .int .i64 (b : Int), .int .i64 (c : Int)]) rfl fun j u hj => by
    rw [h.cell]
    match j, hj with
    | 0, hj => rw [← hj]; exact h0
    | 1, hj => rw [← hj]; exact h1
    | 2, hj => rw [← hj]; exact h2
    | j + 3, hj => simp at hj
theorem size_B8 : (Tryz.prog.info? 273).map (·.size) = some 8 := by kernel_rfl
/-- Eight words, read and written, behind names that the walk does not open. -/
def loadB8 (x : Value) : Sem Value := Instr.loadAt 273 x
def storeB8 (x v : Value) : Sem Unit := Instr.storeAt 273 x v
theorem named_load_B8 (x : Value) : Instr.loadAt 273 x = loadB8 x := rfl
theorem named_store_B8 (x v : Value) : Instr.storeAt 273 x v = storeB8 x v := rfl
attribute [go_sem ↓] named_load_B8 named_store_B8
theorem load_B8 {w : World} {g : Nat} {cs : List Value} {t : TypeId} (h : Blk w g cs t) (hn : cs.length = 8) : (loadB8 (.pointer (some ⟨g, 0, none⟩))).run Tryz.prog w = .ok (.agg cs.toArray) w := by
  have := run_load_arr (P := Tryz.prog) w 273 g 0 8 _ Tryz.underlying273 rfl size_B8 (blk_has h hn)
  rw [blk_arr h hn] at this
  exact this
theorem store_B8 {w : World} {g : Nat} {cs vs : List Value} {t : TypeId} (h : Blk w g cs t) (hn : cs.length = 8) (hv : vs.length = 8) (h1 : ∀ v ∈ vs, v.oneCell' = true) :
    (storeB8 (.pointer (some ⟨g, 0, none⟩)) (.agg vs.toArray)).run Tryz.prog w = .ok () (w.setCells g 0 vs) ∧ Blk (w.setCells g 0 vs) g vs t := by
  have h2 := run_store_arr (P := Tryz.prog) w 273 g 0 8 size_B8 vs.toArray ⟨by simpa using hv, by simpa using h1⟩ (blk_has h hn) (fun j _ => h.froz _)
  have h3 := set_all vs w g 0 cs t h (by omega)
  simp [hv, ← hn] at h3
  exact ⟨h2, h3⟩
/-- What a call tells: a value of a shape, and what was there stays. -/
def Ans (S : Value → Prop) (w : World) (e : Ending) (w' : World) : Prop := (∃ v, e = .returned v ∧ S v) ∧ Below w.heap.size w w'
/-- A call whose answer is of a shape, as an item of a region. -/
theorem gives_ans {S : Value → Prop} {P : Program} {f : FuncId} {args : Array Value} {w' : World} (h : Calls P f args w' (Ans S w')) : Calls P f args w' fun e w2 => ∃ v, e = .returned v ∧ Batch.GR w' w2 ∧ S v := h.mono fun _ _ ⟨⟨v, he, hs⟩, hb⟩ => ⟨v, he, Batch.GR.of hb, hs⟩
theorem boxes1 (w : World) (c0 : List Value) (t0 : TypeId) : ∃ W, Hid (w.alloc (.cells c0.toArray t0) = W) ∧ Blk W w.heap.size c0 t0 ∧ Below w.heap.size w W ∧ W.heap.size = w.heap.size + 1 :=
  ⟨_, Lib.hid rfl, Blk.new _ _ _, (Below.refl _ _).alloc (Nat.le_refl _) _, by simp⟩
theorem boxes2 (w : World) (c0 : List Value) (t0 : TypeId) (c1 : List Value) (t1 : TypeId) : ∃ W, Hid ((w.alloc (.cells c0.toArray t0)).alloc (.cells c1.toArray t1) = W) ∧ Blk W w.heap.size c0 t0 ∧ Blk W (w.heap.size + 1) c1 t1 ∧ Below w.heap.size w W ∧ W.heap.size = w.heap.size + 2 :=
  ⟨_, Lib.hid rfl, (Blk.new _ _ _).alloc _, by simpa using Blk.new (w.alloc (.cells c0.toArray t0)) c1 t1, ((Below.refl _ _).alloc (Nat.le_refl _) _).alloc (by simp) _, by simp⟩
theorem boxes3 (w : World) (c0 : List Value) (t0 : TypeId) (c1 : List Value) (t1 : TypeId) (c2 : List Value) (t2 : TypeId) : ∃ W, Hid (((w.alloc (.cells c0.toArray t0)).alloc (.cells c1.toArray t1)).alloc (.cells c2.toArray t2) = W) ∧ Blk W w.heap.size c0 t0 ∧ Blk W (w.heap.size + 1) c1 t1 ∧ Blk W (w.heap.size + 2) c2 t2 ∧ Below w.heap.size w W ∧ W.heap.size = w.heap.size + 3 := by
  obtain ⟨W, h, b0, b1, hb, hz⟩ := boxes2 w c0 t0 c1 t1
  have h2 := Blk.new W c2 t2
  rw [hz] at h2
  exact ⟨W.alloc (.cells c2.toArray t2), Lib.hid (by rw [← h.out]), b0.alloc _, b1.alloc _, h2, hb.alloc (by omega) _, by simp [hz]⟩
theorem boxes4 (w : World) (c0 : List Value) (t0 : TypeId) (c1 : List Value) (t1 : TypeId) (c2 : List Value) (t2 : TypeId) (c3 : List Value) (t3 : TypeId) : ∃ W, Hid ((((w.alloc (.cells c0.toArray t0)).alloc (.cells c1.toArray t1)).alloc (.cells c2.toArray t2)).alloc (.cells c3.toArray t3) = W) ∧ Blk W w.heap.size c0 t0 ∧ Blk W (w.heap.size + 1) c1 t1 ∧ Blk W (w.heap.size + 2) c2 t2 ∧ Blk W (w.heap.size + 3) c3 t3 ∧ Below w.heap.size w W ∧ W.heap.size = w.heap.size + 4 := by
  obtain ⟨W, h, b0, b1, b2, hb, hz⟩ := boxes3 w c0 t0 c1 t1 c2 t2
  have h2 := Blk.new W c3 t3
  rw [hz] at h2
  exact ⟨W.alloc (.cells c3.toArray t3), Lib.hid (by rw [← h.out]), b0.alloc _, b1.alloc _, b2.alloc _, h2, hb.alloc (by omega) _, by simp [hz]⟩
section
variable {P : Program} {T : TypeId} {d : TypeDesc} {k : Nat}
theorem Ub.load (hu : P.underlying T = some d) (hd : (match d with | .struct _ | .array _ _ => true | _ => false) = true) (hi : (P.info? T).map (·.size) = some k)
    {w : World} {g n : Nat} {t : TypeId} (h : Ub w g n t) (o : Nat) (ho : o + k ≤ n) : ∃ xs : List Int, xs.length = k ∧ ∀ w', Below w.heap.size w w' → (Instr.loadAt T (.pointer (some ⟨g, o, none⟩))).run P w' = .ok (.agg (us xs).toArray) w' := by
  obtain ⟨ys, hl, hB⟩ := h
  refine ⟨(ys.drop o).take k, by simp; omega, fun w' hb => load_cells hu hd hi (by rw [us_length]; simp; omega) fun j u hj => ?_⟩
  have hjk : j < ((ys.drop o).take k).length := by
    have := (List.getElem?_eq_some_iff.1 hj).1
    rwa [us_length] at this
  have hjk2 : j < k := by simp at hjk; omega
  rw [(hB.below hb).cell, us_at ys (by simp at hjk; omega), ← hj, us_at _ hjk]
  congr 2
  simp only [List.getD_eq_getElem?_getD, List.getElem?_take, List.getElem?_drop, if_pos hjk2]
theorem Ub.store (hi : (P.info? T).map (·.size) = some k) {w : World} {g : Nat} {t : TypeId} (h : Ub w g k t) {xs : List Int} (hx : xs.length = k) :
    ∃ w1, (Instr.storeAt T (.pointer (some ⟨g, 0, none⟩)) (.agg (us xs).toArray)).run P w = .ok () w1 ∧ Ub w1 g k t ∧ Chg [g] w w1 := by
  obtain ⟨ys, hl, hB⟩ := h
  have hn : (us ys).length = k := by rw [us_length]; exact hl
  have hv : (us xs).length = k := by rw [us_length]; exact hx
  have h2 := run_store_arr (P := P) w T g 0 k hi (us xs).toArray ⟨by simpa using hv, by simpa using us_one xs⟩ (blk_has hB hn) (fun j _ => hB.froz _)
  have h3 := set_all (us xs) w g 0 (us ys) t hB (by omega)
  simp [hv, ← hn] at h3
  exact ⟨_, h2, ⟨xs, hx, h3⟩, (Chg.refl _ _).setCells _ (.inl (by simp))⟩
end
/-- What a store leaves: every block of words. -/
theorem Ub.kept {w w1 : World} {g k g' n : Nat} {t t' : TypeId} (h0 : Ub w g k t) (h : Ub w1 g k t) (hc : Chg [g] w w1) (h' : Ub w g' n t') : Ub w1 g' n t' := by
  by_cases e : g' = g
  · subst e
    obtain ⟨xs, hx, b0⟩ := h0
    obtain ⟨ys, hy, b1⟩ := h'
    have e1 := b0.symm.trans b1
    simp only [Option.some.injEq, Obj.cells.injEq] at e1
    have e2 : (us xs).length = (us ys).length := by
      have := congrArg Array.size e1.1
      simpa using this
    rw [us_length, us_length] at e2
    obtain rfl : k = n := by omega
    rw [← e1.2.1]
    exact h
  · exact h'.chg hc (by simpa using e)
/-- A result that lies in memory. -/
theorem Ub.res {w : World} {g n : Nat} {t : TypeId} (h : Ub w g n t) : Has w g 0 n ∧ Uv n (.agg (Mem.arr w g 0 n)) := by
  obtain ⟨ys, hl, hB⟩ := h
  have hn : (us ys).length = n := by rw [us_length]; exact hl
  exact ⟨blk_has hB hn, ys, hl, by rw [blk_arr hB hn]⟩
theorem us5 {l : List Int} (h : l.length = 5) : ∃ a b c d e, l = [a, b, c, d, e] := by
  match l, h with
  | [a, b, c, d, e], _ => exact ⟨a, b, c, d, e, rfl⟩
end Cry
end Go.Proofs.YtgalhnobckoneaaGreatDoor
