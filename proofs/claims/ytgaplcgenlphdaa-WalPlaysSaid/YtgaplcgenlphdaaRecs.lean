/- A [][]byte IN MEMORY: what it reads as; one of the call's own that grows. -/
import Derived.Test.YtgaplcgenlphdaaRows
import Derived.Test.YtgaplcgenlphdaaBytes
import Derived.Test.YtgaplcgenlphdaaArr
namespace Go.Proofs.Ytgaplcgenlphdaa
open Go.RowKit Mem

theorem infoBs : (Try.prog.info? 33).map (fun i => (i.zero, i.size, i.bytes)) = some (some (.slice none 0 0), 1, 24) := by kernel_rfl

/-- The [][]byte at A of n elements reads as L; none of its blocks is in S. -/
structure RsX (w : World) (S : List Nat) (A : Option Addr) (n : Nat) (L : List (List UInt8)) : Prop where
  len : L.length = n
  rd : ∀ i, (h : i < L.length) → ∃ ad A' n' c', A = some ad ∧ ad.block < w.heap.size ∧ ad.block ∉ S ∧ w.cell? (ad.add i) = some (.slice A' n' c') ∧ n' ≤ c' ∧ c' ≤ 9223372036854775807 ∧ Bs w w.heap.size A' n' L[i] ∧ ∀ a', A' = some a' → 0 < n' → a'.block ∉ S
/-- Bytes none of whose blocks is in S. -/
theorem bs_chgX {w W : World} {S : List Nat} {A : Option Addr} {n : Nat} {l : List UInt8} (h : Bs w w.heap.size A n l) (hS : ∀ a', A = some a' → 0 < n → a'.block ∉ S) (hc : Chg S w W) : Bs W W.heap.size A n l := by
  refine ⟨Vs.len h, fun j u hj => ?_⟩
  obtain ⟨ad, rfl, hb, hcell⟩ := Vs.rd h j u hj
  have hn : 0 < n := by
    have h1 := (List.getElem?_eq_some_iff.1 hj).1
    have h2 := Vs.len h
    omega
  refine ⟨ad, rfl, Nat.lt_of_lt_of_le hb hc.size, ?_⟩
  rw [hc.cell (by rw [block_add]; exact hb) (by rw [block_add]; exact hS ad rfl hn)]
  exact hcell
theorem RsX.chg {w W : World} {S : List Nat} {A : Option Addr} {n : Nat} {L : List (List UInt8)} (h : RsX w S A n L) (hc : Chg S w W) : RsX W S A n L :=
  ⟨h.len, fun i hi => by
    obtain ⟨ad, A', n', c', e, h1, h2, h3, h4, h5, h6, h7⟩ := h.rd i hi
    exact ⟨ad, A', n', c', e, Nat.lt_of_lt_of_le h1 hc.size, h2, (hc.cell (by rw [block_add]; exact h1) (by rw [block_add]; exact h2)).trans h3, h4, h5, bs_chgX h6 h7 hc, h7⟩⟩
theorem RsX.mono {w : World} {S S' : List Nat} {A : Option Addr} {n : Nat} {L : List (List UInt8)} (h : RsX w S A n L) (hS : ∀ s, s ∈ S' → s ∈ S) : RsX w S' A n L :=
  ⟨h.len, fun i hi => by
    obtain ⟨ad, A', n', c', e, h1, h2, h3, h4, h5, h6, h7⟩ := h.rd i hi
    exact ⟨ad, A', n', c', e, h1, fun hm => h2 (hS _ hm), h3, h4, h5, h6, fun a' ha hn hm => h7 a' ha hn (hS _ hm)⟩⟩
theorem RsX.below {w W : World} {S : List Nat} {A : Option Addr} {n : Nat} {L : List (List UInt8)} (h : RsX w S A n L) (hb : Below w.heap.size w W) : RsX W S A n L := h.chg (Chg.of_below hb)
theorem RsX.empty (w : World) (S : List Nat) (A : Option Addr) : RsX w S A 0 [] := ⟨rfl, fun i hi => by simp at hi⟩
/-- The first k. -/
theorem RsX.take {w : World} {S : List Nat} {A : Option Addr} {n : Nat} {L : List (List UInt8)} (h : RsX w S A n L) (k : Nat) (hk : k ≤ n) : RsX w S A k (L.take k) :=
  ⟨by rw [List.length_take, h.len]; omega, fun i hi => by
    have hi' : i < L.length := by rw [List.length_take] at hi; omega
    obtain ⟨ad, A', n', c', r⟩ := h.rd i hi'
    refine ⟨ad, A', n', c', ?_⟩
    rw [List.getElem_take]
    exact r⟩

/-- 'append(out, x)', and where the new row lies. -/
theorem wpList_pushAt {P : Program} {w : World} {e : TypeId} {X : Value} {ops : Array Oper} {rest : List Oper} {o : Oper} {a : Act} {Q : Exit → Act → World → Prop} (hgd : o.guard = none) (s x : Operand) (t : TypeId)
    (ho : o.op = .call { callee := .builtin .append, args := #[s, x], argTypes := #[t, t] })
    (base : Nat) (i : TypeInfo) (z : Value) (bytes : Nat) (ht : P.underlying t = some (.slice e)) (hi : P.info? e = some i) (hz : i.zero = some z)
    (hsize : i.size = 1) (hby : i.bytes = bytes) (hzs : z.cells.size = 1)
    (v : Value) (n : Nat) (xs : List Value) (hs : a.eval s = v) (hown : w.ownsRow base e 1 v n xs)
    (hx : a.eval x = .slice (some ⟨w.heap.size, 0, none⟩) 1 1) (hX : X.oneCell' = true)
    (h63 : n + 1 ≤ maxLen) (hbytes : (n + 1) * bytes ≤ 140737488355328) (hbase : base ≤ w.heap.size)
    (h : ∀ A' c' w', w'.ownsRow base e 1 (.slice A' (n + 1) c') (n + 1) (xs ++ [X]) → n + 1 ≤ c' → c' ≤ 9223372036854775807 → (w.alloc (.cells #[X] e)).grownBy w' v.ownBlock →
      ((Value.slice A' (n + 1) c').ownBlock = v.ownBlock ∨ (Value.slice A' (n + 1) c').ownBlock = some (w.heap.size + 1)) → wpList P ops Q rest (a.put o.dst (.slice A' (n + 1) c')) w') : wpList P ops Q (o :: rest) a (w.alloc (.cells #[X] e)) :=
  wpList_plain hgd fun _ hK => by
    obtain ⟨v', w', hrun, h2, h3, h4⟩ := run_append (P := P) (w.alloc (.cells #[X] e)) base t o.type e i z 1 bytes ht hi hz hsize hby hzs (by omega) v n xs (hown.alloc _) _ _ 1 1 [X]
      (Vs.new w #[X] e (0, 0) 1 1 [X] rfl (by simp)) (by intro u hu; simp at hu; subst hu; exact hX) h63 hbytes (by simp; omega)
    obtain ⟨A', c', rfl, g1, g2⟩ := own_form h2
    unfold Oper.wp execOp
    simp only [ho, resolve, invoke, builtin, Sem.run_bind, Sem.run_pure, Result.andThen_ok, List.map_toArray, List.map_cons, List.map_nil, hs, hx, hrun]
    exact hK _ _ (h A' c' w' h2 g1 g2 h3 (by simpa using h4))

/-- A [][]byte of the call's own; the bytes of its elements lie in no block of S, and not in its own. -/
structure Row (w : World) (base : Nat) (S : List Nat) (v : Value) (n : Nat) (xs : List Value) (L : List (List UInt8)) : Prop where
  own : w.ownsRow base 33 1 v n xs
  len : L.length = xs.length
  rd : ∀ i, (h : i < L.length) → (h' : i < xs.length) → ∃ A' n' c', xs[i] = .slice A' n' c' ∧ n' ≤ c' ∧ c' ≤ 9223372036854775807 ∧ Bs w w.heap.size A' n' L[i] ∧ ∀ a', A' = some a' → 0 < n' → a'.block ∉ S ∧ v.ownBlock ≠ some a'.block
theorem Row.nil (w : World) (base : Nat) (S : List Nat) : Row w base S (.slice none 0 0) 0 [] [] := ⟨World.ownsRow_nil _ _ _ _, rfl, fun i h => by simp at h⟩
theorem Row.below {w W : World} {base : Nat} {S : List Nat} {v : Value} {n : Nat} {xs : List Value} {L : List (List UInt8)} (h : Row w base S v n xs L) (hb : Below w.heap.size w W) : Row W base S v n xs L :=
  ⟨own_below h.own hb (Nat.le_refl _), h.len, fun i hi hi' => by
    obtain ⟨A', n', c', e, h1, h2, h3, h4⟩ := h.rd i hi hi'
    exact ⟨A', n', c', e, h1, h2, (Bs.below h3 hb).mono hb.size, h4⟩⟩
theorem own_chg {w W : World} {base : Nat} {S : List Nat} {v : Value} {e : TypeId} {size n : Nat} {xs : List Value} (h : w.ownsRow base e size v n xs) (hc : Chg S w W) (hS : ∀ s, s ∈ S → s < base) : W.ownsRow base e size v n xs := by
  refine ⟨h.1, ?_⟩
  rcases h.2 with h2 | ⟨g, cap, cur, hv, hg, hh, r⟩
  · exact .inl h2
  · have hlt := (Array.getElem?_eq_some_iff.1 hh).1
    exact .inr ⟨g, cap, cur, hv, hg, by rw [hc.block g hlt (fun hm => by have := hS g hm; omega)]; exact hh, r⟩
theorem Row.chg {w W : World} {base : Nat} {S : List Nat} {v : Value} {n : Nat} {xs : List Value} {L : List (List UInt8)} (h : Row w base S v n xs L) (hc : Chg S w W) (hS : ∀ s, s ∈ S → s < base) : Row W base S v n xs L :=
  ⟨own_chg h.own hc hS, h.len, fun i hi hi' => by
    obtain ⟨A', n', c', e, h1, h2, h3, h4⟩ := h.rd i hi hi'
    exact ⟨A', n', c', e, h1, h2, bs_chgX h3 (fun a' ha hn => (h4 a' ha hn).1) hc, h4⟩⟩
theorem Row.push {w w' : World} {base : Nat} {S : List Nat} {v : Value} {n : Nat} {xs : List Value} {L : List (List UInt8)} (h : Row w base S v n xs L) {A' : Option Addr} {n' c' : Nat} {l : List UInt8} (hl : Bs w w.heap.size A' n' l) (hn' : n' ≤ c') (hc' : c' ≤ 9223372036854775807)
    (hne : ∀ a', A' = some a' → 0 < n' → a'.block ∉ S ∧ v.ownBlock ≠ some a'.block) {A1 : Option Addr} {c1 : Nat}
    (ho : w'.ownsRow base 33 1 (.slice A1 (n + 1) c1) (n + 1) (xs ++ [.slice A' n' c'])) (hg : (w.alloc (.cells #[.slice A' n' c'] 33)).grownBy w' v.ownBlock)
    (hb : (Value.slice A1 (n + 1) c1).ownBlock = v.ownBlock ∨ (Value.slice A1 (n + 1) c1).ownBlock = some (w.heap.size + 1)) : Row w' base S (.slice A1 (n + 1) c1) (n + 1) (xs ++ [.slice A' n' c']) (L ++ [l]) := by
  have keep : ∀ (A2 : Option Addr) (n2 : Nat) (l2 : List UInt8), Bs w w.heap.size A2 n2 l2 → (∀ a', A2 = some a' → 0 < n2 → a'.block ∉ S ∧ v.ownBlock ≠ some a'.block) →
      Bs w' w'.heap.size A2 n2 l2 ∧ ∀ a', A2 = some a' → 0 < n2 → a'.block ∉ S ∧ (Value.slice A1 (n + 1) c1).ownBlock ≠ some a'.block := by
    intro A2 n2 l2 h1 h2
    have hz : w.heap.size ≤ w'.heap.size := by have := hg.size; simp at this; omega
    refine ⟨⟨Vs.len h1, fun j u hj => ?_⟩, fun a' ha hn => ⟨(h2 a' ha hn).1, ?_⟩⟩
    · obtain ⟨ad, rfl, hlt, hcell⟩ := Vs.rd h1 j u hj
      have hn : 0 < n2 := by
        have e1 := (List.getElem?_eq_some_iff.1 hj).1
        have e2 := Vs.len h1
        omega
      refine ⟨ad, rfl, by omega, ?_⟩
      rw [World.cell?_of_block (hg.block (ad.add j).block (by rw [block_add]; simp; omega) (by rw [block_add]; exact fun e => (h2 ad rfl hn).2 e.symm)), World.cell?_alloc_lt _ _ _ (by rw [block_add]; exact hlt)]
      exact hcell
    · rcases hb with hb | hb
      · rw [hb]
        exact (h2 a' ha hn).2
      · rw [hb]
        intro e
        injection e with e
        subst ha
        have : 0 < (bv l2).length := by rw [bv_length, h1.len]; exact hn
        obtain ⟨ad, e2, hlt, _⟩ := Vs.rd h1 0 _ (List.getElem?_eq_getElem this)
        injection e2 with e2
        subst e2
        omega
  refine ⟨ho, by simp [h.len], fun i hi hi' => ?_⟩
  by_cases hlt : i < L.length
  · have hlt' : i < xs.length := by rw [← h.len]; exact hlt
    obtain ⟨A2, n2, c2, e, h1, h2, h3, h4⟩ := h.rd i hlt hlt'
    obtain ⟨k1, k2⟩ := keep A2 n2 _ h3 h4
    exact ⟨A2, n2, c2, by rw [List.getElem_append_left hlt']; exact e, h1, h2, by rw [List.getElem_append_left hlt]; exact k1, k2⟩
  · have hiL : i = L.length := by simp at hi; omega
    subst hiL
    obtain ⟨k1, k2⟩ := keep A' n' l hl hne
    have e1 : (L ++ [l])[L.length]'hi = l := by simp
    have e2 : (xs ++ [Value.slice A' n' c'])[L.length]'hi' = .slice A' n' c' := by
      rw [List.getElem_append_right (by rw [h.len]; exact Nat.le_refl _)]
      simp
    exact ⟨A', n', c', e2, hn', hc', by rw [e1]; exact k1, k2⟩
theorem Row.rs {w : World} {base : Nat} {S : List Nat} {A : Option Addr} {n c : Nat} {xs : List Value} {L : List (List UInt8)} (h : Row w base S (.slice A n c) n xs L) (hS : ∀ s, s ∈ S → s < base) : RsX w S A n L := by
  have hv := Vs.of_own h.own
  have hlen := h.own.1
  refine ⟨by rw [h.len, hlen]; omega, fun i hi => ?_⟩
  have hi' : i < xs.length := by rw [← h.len]; exact hi
  obtain ⟨A', n', c', e, h1, h2, h3, h4⟩ := h.rd i hi hi'
  obtain ⟨ad, rfl, hb, hc⟩ := Vs.rd hv i _ (List.getElem?_eq_getElem hi')
  obtain ⟨g, hg, hg1, hg2⟩ := own_some h.own (by omega)
  injection hg with hg
  subst hg
  rw [e] at hc
  exact ⟨_, A', n', c', rfl, hb, fun hm => by have := hS _ hm; simp at this; omega, hc, h1, h2, h3, fun a' ha hn => (h4 a' ha hn).1⟩
end Go.Proofs.Ytgaplcgenlphdaa
