/- LedMap, LedDoers (put together by merge.py). -/
import Derived.Test.YtmbpnkacggngkaaGreatDoorLedMem
import Derived.MapKept
/- THE MAP of how operations are done. -/
namespace Go.Proofs.YtmbpnkacggngkaaGreatDoor
open Go.RowKit Mem

/-- A map's entries, keyed by numbers, in the order in which they went in. -/
def ents : Nat → List (Int × Value) → List MapEntry
  | _, [] => []
  | i, (k, v) :: r => { key := .int .i64 k, val := v, born := i } :: ents (i + 1) r
theorem ents_snoc : ∀ (i : Nat) (l : List (Int × Value)) (k : Int) (v : Value), ents i (l ++ [(k, v)]) = ents i l ++ [{ key := .int .i64 k, val := v, born := i + l.length }]
  | i, [], k, v => by simp [ents]
  | i, (k', v') :: r, k, v => by
    have ih := ents_snoc (i + 1) r k v
    simp only [List.cons_append, ents, ih, List.length_cons]
    congr 4
    omega
theorem findNow_ents (k : Int) : ∀ (i j : Nat) (l : List (Int × Value)), Instr.findNow (.int .i64) (.int .i64 k) (ents i l) j = some ((l.findIdx? fun p => k == p.1).bind fun n => l[n]?.map fun p => (j + n, p.2))
  | i, j, [] => rfl
  | i, j, (k', v') :: r => by
    have ih := findNow_ents k (i + 1) (j + 1) r
    simp only [ents, Instr.findNow, Instr.sameNow, if_true]
    by_cases h : k = k'
    · subst h
      simp [List.findIdx?_cons]
    · have hb : (k == k') = false := by simp [h]
      simp only [hb, ih, List.findIdx?_cons]
      congr 1
      cases hq : List.findIdx? (fun p : Int × Value => k == p.1) r with
      | none => simp
      | some n => simp [Nat.add_assoc, Nat.add_comm 1 n]
def mobj (l : List (Int × Value)) : Obj := .map (ents 0 l).toArray l.length
theorem push_set {α : Type} (a : Array α) (x y : α) : (a.push x).setIfInBounds a.size y = a.push y := by
  apply Array.ext
  · simp
  · intro i h1 h2
    have hi : i < a.size + 1 := by simpa using h2
    rw [Array.getElem_setIfInBounds (by simpa using hi)]
    by_cases h : a.size = i
    · subst h
      simp
    · rw [if_neg h, Array.getElem_push_lt (by omega), Array.getElem_push_lt (by omega)]
theorem run_insert_last {P : Program} (w : World) (l : List (Int × Value)) (k : Int) (v : Value) (t kt et : TypeId) (ht : P.underlying t = some (.map kt et)) (hk : P.underlying kt = some (.int .i64)) (hn : l.findIdx? (fun p => k == p.1) = none) :
    (Instr.mapUpdate t (.map (some w.heap.size)) (.int .i64 k) v).run P (w.alloc (mobj l)) = .ok () (w.alloc (mobj (l ++ [(k, v)]))) := by
  have hb : (w.alloc (mobj l)).heap[w.heap.size]? = some (.map (ents 0 l).toArray l.length) := heap_alloc_new w _
  have h1 := Go.MapKept.run_getObj_map (P := P) hb
  have h2 := Go.MapKept.run_checkKey (P := P) (w := w.alloc (mobj l)) hk (k := .int .i64 k) rfl false 9999
  have hf : Instr.findNow (.int .i64) (.int .i64 k) (ents 0 l) 0 = some none := by rw [findNow_ents, hn]; rfl
  have h3 := Go.MapKept.run_findKey (P := P) (w := w.alloc (mobj l)) hk hf
  have h4 := Go.MapKept.run_setObj_map (P := P) (.map ((ents 0 l).toArray.push { key := .int .i64 k, val := v, born := l.length }) (l.length + 1)) hb
  have he : { (w.alloc (mobj l)) with heap := (w.alloc (mobj l)).heap.setIfInBounds w.heap.size (.map ((ents 0 l).toArray.push { key := .int .i64 k, val := v, born := l.length }) (l.length + 1)) } = w.alloc (mobj (l ++ [(k, v)])) := by
    unfold mobj
    rw [ents_snoc]
    show ({ heap := (w.heap.push _).setIfInBounds w.heap.size _, tape := w.tape, drawn := w.drawn, os := w.os, output := w.output } : World) = _
    rw [push_set]
    simp only [Nat.zero_add, List.push_toArray, List.length_append, List.length_cons, List.length_nil]
    rfl
  rw [he] at h4
  unfold Instr.mapUpdate
  simp only [Sem.run_bind, run_underlying ht, Result.andThen_ok, h1, h2, h3, h4]
theorem run_look {P : Program} (w : World) (r : Nat) (l : List (Int × Value)) (k : Int) (t kt et : TypeId) (z : Value) (ht : P.underlying t = some (.map kt et)) (hk : P.underlying kt = some (.int .i64)) (hz : (zeroValue et).run P w = .ok z w) (hr : w.heap[r]? = some (mobj l)) :
    (Instr.lookup t (.map (some r)) (.int .i64 k) false).run P w = .ok (((l.findIdx? fun p => k == p.1).bind fun n => l[n]?.map fun p => p.2).getD z) w := by
  have h1 := Go.MapKept.run_getObj_map (P := P) (w := w) (r := r) (es := (ents 0 l).toArray) (clock := l.length) hr
  have h2 := Go.MapKept.run_checkKey (P := P) (w := w) hk (k := .int .i64 k) rfl (ents 0 l).toArray.isEmpty 9999
  have h3 := Go.MapKept.run_findKey (P := P) (w := w) hk (findNow_ents k 0 0 l)
  unfold Instr.lookup
  simp only [Sem.run_bind, run_underlying ht, Result.andThen_ok, h1, h2, h3, Sem.run_pure]
  cases hq : List.findIdx? (fun p : Int × Value => k == p.1) l with
  | none => simp [hz]
  | some n =>
    cases hn : l[n]? with
    | none => simp [hz, hn]
    | some p => simp [hn]
end Go.Proofs.YtmbpnkacggngkaaGreatDoor
/- THE WALK of doers. -/
namespace Go.Proofs.YtmbpnkacggngkaaGreatDoor
open Go.RowKit Mem

def doL : List (Int × Value) := [(1, .func (.func 42) #[] #[]), (2, .func (.func 43) #[] #[]), (3, .func (.func 44) #[] #[]), (4, .func (.func 45) #[] #[]), (5, .func (.func 46) #[] #[]), (6, .func (.func 47) #[] #[]), (7, .func (.func 48) #[] #[]), (8, .func (.func 49) #[] #[]), (9, .func (.func 50) #[] #[]), (10, .func (.func 51) #[] #[]), (11, .func (.func 52) #[] #[]), (12, .func (.func 53) #[] #[]), (13, .func (.func 54) #[] #[]), (14, .func (.func 55) #[] #[]), (101, .func (.func 56) #[] #[]), (103, .func (.func 56) #[] #[]), (105, .func (.func 56) #[] #[]), (106, .func (.func 56) #[] #[]), (109, .func (.func 56) #[] #[]), (112, .func (.func 56) #[] #[])]
/-- The map behind j entries. -/
def mo (j : Nat) : Obj := mobj (doL.take j)
theorem mo_zero : (.map #[] 0 : Obj) = mo 0 := rfl
set_option maxRecDepth 100000 in
set_option maxHeartbeats 2000000 in
theorem doers_any (w : World) : Calls Tryz.prog 26 #[] w fun e w' => e = .returned (.map (some w.heap.size)) ∧ w' = w.alloc (mo 20) := by
  have hm := @run_makeMap Tryz.prog
  have i0 : (Instr.mapUpdate 73 (.map (some w.heap.size)) (.int .i64 1) (.func (.func 42) #[] #[])).run Tryz.prog (w.alloc (.map #[] 0)) = .ok () (w.alloc (mo 1)) := run_insert_last (P := Tryz.prog) w (doL.take 0) 1 (.func (.func 42) #[] #[]) _ _ _ Tryz.underlying73 Tryz.underlying3 rfl
  have i1 : (Instr.mapUpdate 73 (.map (some w.heap.size)) (.int .i64 2) (.func (.func 43) #[] #[])).run Tryz.prog (w.alloc (mo 1)) = .ok () (w.alloc (mo 2)) := run_insert_last (P := Tryz.prog) w (doL.take 1) 2 (.func (.func 43) #[] #[]) _ _ _ Tryz.underlying73 Tryz.underlying3 rfl
  have i2 : (Instr.mapUpdate 73 (.map (some w.heap.size)) (.int .i64 3) (.func (.func 44) #[] #[])).run Tryz.prog (w.alloc (mo 2)) = .ok () (w.alloc (mo 3)) := run_insert_last (P := Tryz.prog) w (doL.take 2) 3 (.func (.func 44) #[] #[]) _ _ _ Tryz.underlying73 Tryz.underlying3 rfl
  have i3 : (Instr.mapUpdate 73 (.map (some w.heap.size)) (.int .i64 4) (.func (.func 45) #[] #[])).run Tryz.prog (w.alloc (mo 3)) = .ok () (w.alloc (mo 4)) := run_insert_last (P := Tryz.prog) w (doL.take 3) 4 (.func (.func 45) #[] #[]) _ _ _ Tryz.underlying73 Tryz.underlying3 rfl
  have i4 : (Instr.mapUpdate 73 (.map (some w.heap.size)) (.int .i64 5) (.func (.func 46) #[] #[])).run Tryz.prog (w.alloc (mo 4)) = .ok () (w.alloc (mo 5)) := run_insert_last (P := Tryz.prog) w (doL.take 4) 5 (.func (.func 46) #[] #[]) _ _ _ Tryz.underlying73 Tryz.underlying3 rfl
  have i5 : (Instr.mapUpdate 73 (.map (some w.heap.size)) (.int .i64 6) (.func (.func 47) #[] #[])).run Tryz.prog (w.alloc (mo 5)) = .ok () (w.alloc (mo 6)) := run_insert_last (P := Tryz.prog) w (doL.take 5) 6 (.func (.func 47) #[] #[]) _ _ _ Tryz.underlying73 Tryz.underlying3 rfl
  have i6 : (Instr.mapUpdate 73 (.map (some w.heap.size)) (.int .i64 7) (.func (.func 48) #[] #[])).run Tryz.prog (w.alloc (mo 6)) = .ok () (w.alloc (mo 7)) := run_insert_last (P := Tryz.prog) w (doL.take 6) 7 (.func (.func 48) #[] #[]) _ _ _ Tryz.underlying73 Tryz.underlying3 rfl
  have i7 : (Instr.mapUpdate 73 (.map (some w.heap.size)) (.int .i64 8) (.func (.func 49) #[] #[])).run Tryz.prog (w.alloc (mo 7)) = .ok () (w.alloc (mo 8)) := run_insert_last (P := Tryz.prog) w (doL.take 7) 8 (.func (.func 49) #[] #[]) _ _ _ Tryz.underlying73 Tryz.underlying3 rfl
  have i8 : (Instr.mapUpdate 73 (.map (some w.heap.size)) (.int .i64 9) (.func (.func 50) #[] #[])).run Tryz.prog (w.alloc (mo 8)) = .ok () (w.alloc (mo 9)) := run_insert_last (P := Tryz.prog) w (doL.take 8) 9 (.func (.func 50) #[] #[]) _ _ _ Tryz.underlying73 Tryz.underlying3 rfl
  have i9 : (Instr.mapUpdate 73 (.map (some w.heap.size)) (.int .i64 10) (.func (.func 51) #[] #[])).run Tryz.prog (w.alloc (mo 9)) = .ok () (w.alloc (mo 10)) := run_insert_last (P := Tryz.prog) w (doL.take 9) 10 (.func (.func 51) #[] #[]) _ _ _ Tryz.underlying73 Tryz.underlying3 rfl
  have i10 : (Instr.mapUpdate 73 (.map (some w.heap.size)) (.int .i64 11) (.func (.func 52) #[] #[])).run Tryz.prog (w.alloc (mo 10)) = .ok () (w.alloc (mo 11)) := run_insert_last (P := Tryz.prog) w (doL.take 10) 11 (.func (.func 52) #[] #[]) _ _ _ Tryz.underlying73 Tryz.underlying3 rfl
  have i11 : (Instr.mapUpdate 73 (.map (some w.heap.size)) (.int .i64 12) (.func (.func 53) #[] #[])).run Tryz.prog (w.alloc (mo 11)) = .ok () (w.alloc (mo 12)) := run_insert_last (P := Tryz.prog) w (doL.take 11) 12 (.func (.func 53) #[] #[]) _ _ _ Tryz.underlying73 Tryz.underlying3 rfl
  have i12 : (Instr.mapUpdate 73 (.map (some w.heap.size)) (.int .i64 13) (.func (.func 54) #[] #[])).run Tryz.prog (w.alloc (mo 12)) = .ok () (w.alloc (mo 13)) := run_insert_last (P := Tryz.prog) w (doL.take 12) 13 (.func (.func 54) #[] #[]) _ _ _ Tryz.underlying73 Tryz.underlying3 rfl
  have i13 : (Instr.mapUpdate 73 (.map (some w.heap.size)) (.int .i64 14) (.func (.func 55) #[] #[])).run Tryz.prog (w.alloc (mo 13)) = .ok () (w.alloc (mo 14)) := run_insert_last (P := Tryz.prog) w (doL.take 13) 14 (.func (.func 55) #[] #[]) _ _ _ Tryz.underlying73 Tryz.underlying3 rfl
  have i14 : (Instr.mapUpdate 73 (.map (some w.heap.size)) (.int .i64 101) (.func (.func 56) #[] #[])).run Tryz.prog (w.alloc (mo 14)) = .ok () (w.alloc (mo 15)) := run_insert_last (P := Tryz.prog) w (doL.take 14) 101 (.func (.func 56) #[] #[]) _ _ _ Tryz.underlying73 Tryz.underlying3 rfl
  have i15 : (Instr.mapUpdate 73 (.map (some w.heap.size)) (.int .i64 103) (.func (.func 56) #[] #[])).run Tryz.prog (w.alloc (mo 15)) = .ok () (w.alloc (mo 16)) := run_insert_last (P := Tryz.prog) w (doL.take 15) 103 (.func (.func 56) #[] #[]) _ _ _ Tryz.underlying73 Tryz.underlying3 rfl
  have i16 : (Instr.mapUpdate 73 (.map (some w.heap.size)) (.int .i64 105) (.func (.func 56) #[] #[])).run Tryz.prog (w.alloc (mo 16)) = .ok () (w.alloc (mo 17)) := run_insert_last (P := Tryz.prog) w (doL.take 16) 105 (.func (.func 56) #[] #[]) _ _ _ Tryz.underlying73 Tryz.underlying3 rfl
  have i17 : (Instr.mapUpdate 73 (.map (some w.heap.size)) (.int .i64 106) (.func (.func 56) #[] #[])).run Tryz.prog (w.alloc (mo 17)) = .ok () (w.alloc (mo 18)) := run_insert_last (P := Tryz.prog) w (doL.take 17) 106 (.func (.func 56) #[] #[]) _ _ _ Tryz.underlying73 Tryz.underlying3 rfl
  have i18 : (Instr.mapUpdate 73 (.map (some w.heap.size)) (.int .i64 109) (.func (.func 56) #[] #[])).run Tryz.prog (w.alloc (mo 18)) = .ok () (w.alloc (mo 19)) := run_insert_last (P := Tryz.prog) w (doL.take 18) 109 (.func (.func 56) #[] #[]) _ _ _ Tryz.underlying73 Tryz.underlying3 rfl
  have i19 : (Instr.mapUpdate 73 (.map (some w.heap.size)) (.int .i64 112) (.func (.func 56) #[] #[])).run Tryz.prog (w.alloc (mo 19)) = .ok () (w.alloc (mo 20)) := run_insert_last (P := Tryz.prog) w (doL.take 19) 112 (.func (.func 56) #[] #[]) _ _ _ Tryz.underlying73 Tryz.underlying3 rfl
  go_enter Tryz.func26, Tryz.ntmps26
  go_wp2
  go_ret
  exact ⟨rfl, rfl⟩
end Go.Proofs.YtmbpnkacggngkaaGreatDoor
