/- WHAT the agent's texts take of blocks, rows and copies. -/
import Derived.Test.YtgalhnobckoneaaGreatDoorLedMem
import Derived.Test.YtgalhnobckoneaaGreatDoorShaWord
import Derived.Laws.CopyOwn
import Derived.Lib.SliceRun
import Derived.Laws.Tables
namespace Go.Proofs.YtgalhnobckoneaaGreatDoor
open Go.RowKit Mem
namespace Cry

theorem arr_cells {w : World} {b o n : Nat} {cs : List Value} (hn : cs.length = n) (h : ∀ j u, cs[j]? = some u → w.cell? ⟨b, o + j, none⟩ = some u) : Mem.arr w b o n = cs.toArray ∧ Has w b o n := by
  have hh : ∀ j, (hj : j < cs.length) → w.cell? ⟨b, o + j, none⟩ = some cs[j] := fun j hj => h j _ (List.getElem?_eq_getElem hj)
  subst hn
  constructor
  · unfold Mem.arr
    congr 1
    apply List.ext_getElem
    · simp
    · intro j h1 h2
      rw [List.getElem_map, List.getElem_range, hh j h2]
      rfl
  · intro j hj
    rw [hh j hj]
    rfl
section
variable {P : Program} {T : TypeId} {d : TypeDesc} {k : Nat}
theorem load_cells (hu : P.underlying T = some d) (hd : (match d with | .struct _ | .array _ _ => true | _ => false) = true) (hi : (P.info? T).map (·.size) = some k)
    {w : World} {b o : Nat} {cs : List Value} (hn : cs.length = k) (h : ∀ j u, cs[j]? = some u → w.cell? ⟨b, o + j, none⟩ = some u) : (Instr.loadAt T (.pointer (some ⟨b, o, none⟩))).run P w = .ok (.agg cs.toArray) w := by
  obtain ⟨h1, h2⟩ := arr_cells hn h
  have := run_load_arr (P := P) w T b o k _ hu hd hi h2
  rw [h1] at this
  exact this
end
theorem own_of_row {w : World} {base : Nat} {e : TypeId} {k n g c : Nat} {M xs : List Value} (hb : base ≤ g) (hg : Blk w g M e) (hn : n ≤ c) (hc : c ≤ maxLen) (hs : M.length = c * k) (ht : M.take (n * k) = xs) : w.ownsRow base e k (.slice (some ⟨g, 0, none⟩) n c) n xs := by
  refine ⟨?_, .inr ⟨g, c, M.toArray, rfl, hb, hg, hn, hc, by simpa using hs, by simpa using ht⟩⟩
  rw [← ht, List.length_take, hs]
  exact Nat.min_eq_left (Nat.mul_le_mul_right _ hn)
theorem blk_setRow {w : World} {g : Nat} {M M' : List Value} {e : TypeId} (h : Blk w g M e) : Blk (w.setRow g M'.toArray) g M' e := setRow_heap w g M.toArray _ e _ h
section
variable {P : Program}
theorem run_copyK {w : World} {dT sT ty elem : TypeId} {g o dLen dCap : Nat} {a : Addr} {sLen sCap k m : Nat} {M : List Value} {t : TypeId} {cs : List Value}
    (hu : P.underlying dT = some (.slice elem)) (hs : (P.info? elem).map (·.size) = some k) (hg : Blk w g M t) (hm : Nat.min sLen dLen = m) (hn : cs.length = m * k)
    (hsrc : ∀ j v, cs[j]? = some v → w.cell? (a.add j) = some v) (hfit : o + cs.length ≤ M.length) (h1 : ∀ v ∈ cs, v.oneCell' = true) :
    (Builtin.copy_ #[dT, sT] ty #[.slice (some ⟨g, o, none⟩) dLen dCap, .slice (some a) sLen sCap]).run P w = .ok (goInt m) (w.setRow g (splice M o cs).toArray) := by
  have hl := run_loadCells_list (P := P) w a cs hsrc
  have hst := run_storeCells_at P g o t cs 0 M.toArray w hg (by simpa using hfit) h1
  cases hq : P.info? elem with
  | none => simp [hq] at hs
  | some i =>
    have hi : i.size = k := by simpa [hq] using hs
    subst hm
    simp [Builtin.copy_, run_underlying hu, Builtin.lenOf, Builtin.firstCells, sizeOf, typeInfo, hq, hi, ← hn, hl, hst, splice]
theorem wp_copyR {w : World} {o : Oper} {a : Act} {K : Act → World → Prop} {Q : Exit → Act → World → Prop} (d s : Operand) (t t' : TypeId)
    (ho : o.op = .call { callee := .builtin .copy, args := #[d, s], argTypes := #[t, t'] }) (v u : Value) (hd : a.eval d = v) (hs : a.eval s = u) {v' : Value} {w' : World}
    (hr : (Builtin.copy_ #[t, t'] o.type #[v, u]).run P w = .ok v' w') (h : K (a.put o.dst v') w') : o.wp P a w K Q := by
  unfold Oper.wp execOp
  simp only [ho, resolve, invoke, builtin, Sem.run_bind, Sem.run_pure, Result.andThen_ok, List.map_toArray, List.map_cons, List.map_nil, hd, hs, hr]
  exact h
theorem wpList_copyR (w : World) {ops : Array Oper} {rest : List Oper} {o : Oper} {a : Act} {Q : Exit → Act → World → Prop} (hgd : o.guard = none) (d s : Operand) (t t' : TypeId)
    (ho : o.op = .call { callee := .builtin .copy, args := #[d, s], argTypes := #[t, t'] }) (v u : Value) (hd : a.eval d = v) (hs : a.eval s = u) {v' : Value} {w' : World}
    (hr : (Builtin.copy_ #[t, t'] o.type #[v, u]).run P w = .ok v' w') (h : wpList P ops Q rest (a.put o.dst v') w') : wpList P ops Q (o :: rest) a w :=
  wpList_plain hgd fun _ hK => wp_copyR d s t t' ho v u hd hs hr (hK _ _ h)
end
theorem below_own {w w' : World} {base : Nat} {e : TypeId} {v : Value} {n : Nat} {xs : List Value} (h : w.ownsRow base e 1 v n xs) (hb : Below w.heap.size w w') : w'.ownsRow base e 1 v n xs := by
  refine ⟨h.1, ?_⟩
  rcases h.2 with h2 | ⟨g, cap, cur, hv, hg, hh, r⟩
  · exact .inl h2
  · exact .inr ⟨g, cap, cur, hv, hg, by rw [hb.block g (Array.getElem?_eq_some_iff.1 hh).1]; exact hh, r⟩
/-- As many as a slice has. -/
def lenV : Value → Nat
  | .slice _ n _ => n
  | _ => 0
end Cry
end Go.Proofs.YtgalhnobckoneaaGreatDoor
