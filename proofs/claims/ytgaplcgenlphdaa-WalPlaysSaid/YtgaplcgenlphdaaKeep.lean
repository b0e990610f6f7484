/- 'append(s, x)' ONTO A ROW OF THE CALL's OWN, where s itself is read again behind it. -/
import Derived.Test.YtgaplcgenlphdaaMem
namespace Go.Proofs.Ytgaplcgenlphdaa
namespace Mem
open Go.RowKit

theorem grownBy_none_drew (w : World) (o : Obj) : w.grownBy (w.drew.alloc o) none := ⟨rfl, rfl, rfl, by simp, fun k hk _ => heap_alloc_old w.drew _ hk⟩
/-- The old slice reads behind the append as it did. -/
theorem run_push_keep {P : Program} (w : World) (base : Nat) (t ty e : TypeId) (i : TypeInfo) (z : Value) (bytes : Nat) (ht : P.underlying t = some (.slice e)) (hi : P.info? e = some i) (hz : i.zero = some z)
    (hsize : i.size = 1) (hby : i.bytes = bytes) (hzs : z.cells.size = 1)
    (A : Option Addr) (n c : Nat) (xs : List Value) (hown : w.ownsRow base e 1 (.slice A n c) n xs)
    (a : Addr) (c' : Nat) (X : Value) (hX : w.cell? a = some X) (h1 : X.oneCell' = true)
    (h63 : n + 1 ≤ maxLen) (hbytes : (n + 1) * bytes ≤ 140737488355328) (hbase : base ≤ w.heap.size) :
    ∃ A' c2 w', (Builtin.append_ #[t, t] ty #[.slice A n c, .slice (some a) 1 c']).run P w = .ok (.slice A' (n + 1) c2) w' ∧ n + 1 ≤ c2 ∧ c2 ≤ 9223372036854775807 ∧ w'.ownsRow base e 1 (.slice A' (n + 1) c2) (n + 1) (xs ++ [X]) ∧ w.grownBy w' (Value.slice A n c).ownBlock ∧
      ((Value.slice A' (n + 1) c2).ownBlock = (Value.slice A n c).ownBlock ∨ (Value.slice A' (n + 1) c2).ownBlock = some w.heap.size) ∧ Vs w' w'.heap.size 1 A n xs := by
  have hnews : ∀ j u, [X][j]? = some u → w.cell? (a.add j) = some u := by
    intro j u hj
    match j, hj with
    | 0, hj =>
      simp at hj
      subst hj
      rw [show a.add 0 = a by simp [Addr.add]]
      exact hX
  have hn1 : ∀ u ∈ [X], u.oneCell' = true := by intro u hu; simp at hu; subst hu; exact h1
  obtain ⟨v', w', hr, h2, h3, _, h5⟩ := run_append_own_at (P := P) w base t ty e i z 1 bytes ht hi hz hsize hby hzs (by omega) _ n xs hown a 1 c' [X] (by simp) hnews hn1 h63 hbytes hbase
  obtain ⟨A', c2, rfl, g1, g2⟩ := own_form h2
  refine ⟨A', c2, w', hr, g1, g2, h2, h3, h5, ?_⟩
  have hvs := Vs.of_own hown
  have far : w.grownBy w' none → Vs w' w'.heap.size 1 A n xs := fun hg => 
    (hvs.keep fun p hp => hg.cell_far p hp (by simp)).mono hg.size
  rcases hown.2 with ⟨hv, rfl⟩ | ⟨g, cap, cur, hv, hbg, hg, hnc, hcm, hcs, htake⟩
  · rw [hv] at h3
    exact far h3
  · injection hv with e1 e2 e3
    subst e1 e3
    by_cases hroom : n + 1 ≤ c
    · have hfit : n * i.size + [X].length ≤ cur.size := by rw [hsize, hcs]; simp; omega
      have hr' := run_append_room (P := P) w t ty e i ht hi g n c cur hg a 1 c' [X] (by simp [hsize]) hnews hn1 hroom hfit
      rw [hr] at hr'
      injection hr' with e1 e2
      injection e1 with e3 e4 e5
      subst e3
      have hv2 := Vs.of_own h2
      refine ⟨hvs.len, fun j u hj => ?_⟩
      have hj2 : (xs ++ [X])[j]? = some u := by rw [List.getElem?_append_left (List.getElem?_eq_some_iff.1 hj).1]; exact hj
      exact hv2.rd j u hj2
    · have holds : ∀ j u, xs[j]? = some u → w.cell? ((⟨g, 0, none⟩ : Addr).add j) = some u := hown.cells (g := g) rfl
      have hr' := run_append_grow (P := P) w t ty e i z ht hi hz ⟨g, 0, none⟩ n c xs (by rw [hsize]; exact hown.1) holds a 1 c' [X] (by simp [hsize]) hnews (by omega) (by simp only [maxLen] at h63; omega) (growslice_fits (by omega) (by rw [hby]; exact hbytes))
      rw [hr] at hr'
      injection hr' with e1 e2
      exact far (by rw [e2]; exact grownBy_none_drew w _)

theorem wpList_pushKeep {P : Program} {w : World} {e : TypeId} {X : Value} {ops : Array Oper} {rest : List Oper} {o : Oper} {a : Act} {Q : Exit → Act → World → Prop} (hgd : o.guard = none) (s x : Operand) (t : TypeId)
    (ho : o.op = .call { callee := .builtin .append, args := #[s, x], argTypes := #[t, t] })
    (base : Nat) (i : TypeInfo) (z : Value) (bytes : Nat) (ht : P.underlying t = some (.slice e)) (hi : P.info? e = some i) (hz : i.zero = some z)
    (hsize : i.size = 1) (hby : i.bytes = bytes) (hzs : z.cells.size = 1)
    (A : Option Addr) (n c : Nat) (xs : List Value) (hs : a.eval s = .slice A n c) (hown : w.ownsRow base e 1 (.slice A n c) n xs)
    (hx : a.eval x = .slice (some ⟨w.heap.size, 0, none⟩) 1 1) (hX : X.oneCell' = true)
    (h63 : n + 1 ≤ maxLen) (hbytes : (n + 1) * bytes ≤ 140737488355328) (hbase : base ≤ w.heap.size)
    (h : ∀ A' c' w', w'.ownsRow base e 1 (.slice A' (n + 1) c') (n + 1) (xs ++ [X]) → n + 1 ≤ c' → c' ≤ 9223372036854775807 → (w.alloc (.cells #[X] e)).grownBy w' (Value.slice A n c).ownBlock → Vs w' w'.heap.size 1 A n xs → wpList P ops Q rest (a.put o.dst (.slice A' (n + 1) c')) w') : wpList P ops Q (o :: rest) a (w.alloc (.cells #[X] e)) :=
  wpList_plain hgd fun _ hK => by
    obtain ⟨A', c', w', hrun, g1, g2, h2, h3, h4, h5⟩ := run_push_keep (P := P) (w.alloc (.cells #[X] e)) base t o.type e i z bytes ht hi hz hsize hby hzs A n c xs (hown.alloc _) ⟨w.heap.size, 0, none⟩ 1 X (by have := cell_new w #[X] e (0, 0) 0; exact this) hX h63 hbytes (by simp; omega)
    unfold Oper.wp execOp
    simp only [ho, resolve, invoke, builtin, Sem.run_bind, Sem.run_pure, Result.andThen_ok, List.map_toArray, List.map_cons, List.map_nil, hs, hx, hrun]
    exact hK _ _ (h A' c' w' h2 g1 g2 h3 h5)
end Mem
end Go.Proofs.Ytgaplcgenlphdaa
