/- A [][]byte AND A []string OF THE CALL's OWN, the bytes of each element of its own too. -/
import Derived.Test.YtgaplcgenlphdaaWalTexts
import Derived.Test.YtgaplcgenlphdaaKeep
namespace Go.Proofs.Ytgaplcgenlphdaa
open Go.RowKit Mem

theorem own_keep {w w' : World} {base : Nat} {e : TypeId} {size n : Nat} {v : Value} {xs : List Value} (h : w.ownsRow base e size v n xs) (hk : ∀ b, v.ownBlock = some b → w'.heap[b]? = w.heap[b]?) : w'.ownsRow base e size v n xs := by
  refine ⟨h.1, ?_⟩
  rcases h.2 with h2 | ⟨g, cap, cur, rfl, hg, hh, r⟩
  · exact .inl h2
  · exact .inr ⟨g, cap, cur, rfl, hg, by rw [hk g rfl]; exact hh, r⟩
structure Elems (w : World) (base : Nat) (xs : List Value) (L : List (List UInt8)) : Prop where
  len : L.length = xs.length
  own : ∀ i (h : i < L.length) (h' : i < xs.length), w.ownsRow base 5 1 xs[i] L[i].length (bv L[i])
  dis : ∀ i j (h : i < xs.length) (h' : j < xs.length), i ≠ j → ∀ b, xs[i].ownBlock = some b → xs[j].ownBlock ≠ some b
theorem Elems.keep {w w' : World} {base : Nat} {xs : List Value} {L : List (List UInt8)} (h : Elems w base xs L) (hk : ∀ u ∈ xs, ∀ b, u.ownBlock = some b → w'.heap[b]? = w.heap[b]?) : Elems w' base xs L :=
  ⟨h.len, fun i hi hi' => own_keep (h.own i hi hi') (hk _ (List.getElem_mem hi')), h.dis⟩
theorem Elems.push {w : World} {base : Nat} {xs : List Value} {L : List (List UInt8)} (h : Elems w base xs L) {u : Value} {l : List UInt8} (hu : w.ownsRow base 5 1 u l.length (bv l)) (hf : ∀ v ∈ xs, ∀ b, v.ownBlock = some b → u.ownBlock ≠ some b) : Elems w base (xs ++ [u]) (L ++ [l]) := by
  refine ⟨by simp [h.len], fun i hi hi' => ?_, fun i j hi hj hne b hb => ?_⟩
  · by_cases hlt : i < L.length
    · have hlt' : i < xs.length := by rw [← h.len]; exact hlt
      have e1 : (L ++ [l])[i] = L[i] := List.getElem_append_left hlt
      have e2 : (xs ++ [u])[i] = xs[i] := List.getElem_append_left hlt'
      rw [e1, e2]
      exact h.own i hlt hlt'
    · have hiL : i = L.length := by simp at hi; omega
      subst hiL
      have e1 : (L ++ [l])[L.length] = l := by simp
      have e2 : (xs ++ [u])[L.length] = u := by
        rw [List.getElem_append_right (by rw [h.len]; exact Nat.le_refl _)]
        simp
      rw [e1, e2]
      exact hu
  · simp at hi hj
    by_cases h1 : i < xs.length <;> by_cases h2 : j < xs.length
    · rw [List.getElem_append_left h1] at hb
      rw [List.getElem_append_left h2]
      exact h.dis i j h1 h2 hne b hb
    · rw [List.getElem_append_left h1] at hb
      rw [List.getElem_append_right (by omega)]
      simp
      exact hf _ (List.getElem_mem h1) b hb
    · rw [List.getElem_append_right (by omega)] at hb
      rw [List.getElem_append_left h2]
      simp at hb
      intro hc
      exact hf _ (List.getElem_mem h2) b hc hb
    · omega
/-- The three, none in another's memory. -/
structure Three (w : World) (base : Nat) (vo vh : Value) (m : Nat) (xs : List Value) (L : List (List UInt8)) (mh : Nat) (hs : List Value) : Prop where
  o : w.ownsRow base 33 1 vo m xs
  h : w.ownsRow base 9 1 vh mh hs
  e : Elems w base xs L
  d1 : ∀ u ∈ xs, ∀ b, u.ownBlock = some b → vo.ownBlock ≠ some b ∧ vh.ownBlock ≠ some b
  d2 : ∀ b, vo.ownBlock = some b → vh.ownBlock ≠ some b
section
variable {w w' w1 : World} {base m mh : Nat} {vo vh : Value} {xs hs : List Value} {L : List (List UInt8)}
theorem Three.nil (w : World) (base : Nat) : Three w base (.slice none 0 0) (.slice none 0 0) 0 [] [] 0 [] :=
  ⟨World.ownsRow_nil _ _ _ _, World.ownsRow_nil _ _ _ _, ⟨rfl, fun i h => by simp at h, fun i j h => by simp at h⟩, fun u hu => by simp at hu, fun b hb => by simp [Value.ownBlock] at hb⟩
theorem Elems.blk (h : Elems w base xs L) {u : Value} (hu : u ∈ xs) {b : Nat} (hb : u.ownBlock = some b) : base ≤ b ∧ b < w.heap.size := by
  obtain ⟨i, hi, rfl⟩ := List.mem_iff_getElem.1 hu
  exact (h.own i (by rw [h.len]; exact hi) hi).lt b hb
theorem Three.chg {S : List Nat} (h : Three w base vo vh m xs L mh hs) (hc : Chg S w w') (hS : ∀ s, s ∈ S → s < base) : Three w' base vo vh m xs L mh hs :=
  ⟨own_chg h.o hc hS, own_chg h.h hc hS, h.e.keep fun u hu b hb => by
    have := h.e.blk hu hb
    exact hc.block b this.2 fun hm => by have := hS b hm; omega, h.d1, h.d2⟩
theorem Three.below (h : Three w base vo vh m xs L mh hs) (hb : Below w.heap.size w w') : Three w' base vo vh m xs L mh hs := h.chg (Chg.of_below (S := []) hb) (by simp)
/-- 'own = append(own, b)'. -/
theorem Three.pushOwn {vb vo' : Value} {l : List UInt8} {t : TypeId} (h : Three w base vo vh m xs L mh hs) (hb : w.ownsRow base 5 1 vb l.length (bv l)) (hf : ∀ v ∈ xs, ∀ b, v.ownBlock = some b → vb.ownBlock ≠ some b) (hfo : ∀ b, vb.ownBlock = some b → vo.ownBlock ≠ some b ∧ vh.ownBlock ≠ some b)
    (ho : w1.ownsRow base 33 1 vo' (m + 1) (xs ++ [vb])) (hg : (w.alloc (.cells #[vb] t)).grownBy w1 vo.ownBlock) (hat : vo'.ownBlock = vo.ownBlock ∨ vo'.ownBlock = some (w.heap.size + 1)) : Three w1 base vo' vh (m + 1) (xs ++ [vb]) (L ++ [l]) mh hs := by
  have keep : ∀ b, b < w.heap.size → vo.ownBlock ≠ some b → w1.heap[b]? = w.heap[b]? := fun b hb hne => by
    rw [hg.block b (by simp; omega) (fun e => hne e.symm)]
    exact heap_alloc_old w _ hb
  have hE : Elems w1 base (xs ++ [vb]) (L ++ [l]) := (h.e.push hb hf).keep fun u hu b hub => by
    rcases List.mem_append.1 hu with hu | hu
    · exact keep b (h.e.blk hu hub).2 (h.d1 u hu b hub).1
    · simp at hu
      subst hu
      exact keep b (hb.lt b hub).2 (hfo b hub).1
  refine ⟨ho, own_keep h.h fun b hhb => keep b (h.h.lt b hhb).2 fun e => h.d2 b e hhb, hE, fun u hu b hub => ?_, fun b hb2 => ?_⟩
  · have hlt : b < w.heap.size ∧ vo.ownBlock ≠ some b ∧ vh.ownBlock ≠ some b := by
      rcases List.mem_append.1 hu with hu | hu
      · exact ⟨(h.e.blk hu hub).2, h.d1 u hu b hub⟩
      · simp at hu
        subst hu
        exact ⟨(hb.lt b hub).2, hfo b hub⟩
    refine ⟨?_, hlt.2.2⟩
    rcases hat with e | e
    · rw [e]; exact hlt.2.1
    · rw [e]; intro e2; injection e2 with e2; omega
  · rcases hat with e | e
    · rw [e] at hb2; exact h.d2 b hb2
    · rw [e] at hb2
      injection hb2 with hb2
      subst hb2
      intro e2
      have := (h.h.lt _ e2).2
      omega
/-- 'had = append(had, s)'. -/
theorem Three.pushHad {s vh' : Value} {t : TypeId} (h : Three w base vo vh m xs L mh hs)
    (ho : w1.ownsRow base 9 1 vh' (mh + 1) (hs ++ [s])) (hg : (w.alloc (.cells #[s] t)).grownBy w1 vh.ownBlock) (hat : vh'.ownBlock = vh.ownBlock ∨ vh'.ownBlock = some (w.heap.size + 1)) : Three w1 base vo vh' m xs L (mh + 1) (hs ++ [s]) := by
  have keep : ∀ b, b < w.heap.size → vh.ownBlock ≠ some b → w1.heap[b]? = w.heap[b]? := fun b hb hne => by
    rw [hg.block b (by simp; omega) (fun e => hne e.symm)]
    exact heap_alloc_old w _ hb
  refine ⟨own_keep h.o fun b hb => keep b (h.o.lt b hb).2 (h.d2 b hb), ho, h.e.keep fun u hu b hb => keep b (h.e.blk hu hb).2 (h.d1 u hu b hb).2, fun u hu b hb => ⟨(h.d1 u hu b hb).1, ?_⟩, fun b hb => ?_⟩
  · have := h.e.blk hu hb
    rcases hat with e | e
    · rw [e]; exact (h.d1 u hu b hb).2
    · rw [e]; intro e2; injection e2 with e2; omega
  · rcases hat with e | e
    · rw [e]; exact h.d2 b hb
    · rw [e]
      have := (h.o.lt b hb).2
      intro e2; injection e2 with e2; omega
/-- 'own[i][k] = 7'. -/
theorem Three.store {i k g n c : Nat} {u : UInt8} (h : Three w base vo vh m xs L mh hs) (hi : i < L.length) (hi' : i < xs.length) (hx : xs[i] = .slice (some ⟨g, 0, none⟩) n c) (hk : k < L[i].length) :
    Three (w.setCell ⟨g, k, none⟩ (.int .u8 (u.toNat : Int))) base vo vh m xs (L.set i (L[i].set k u)) mh hs ∧ w.cell? ⟨g, k, none⟩ = some (.int .u8 (L[i][k].toNat : Int)) ∧ w.frozen? ⟨g, k, none⟩ = false ∧ base ≤ g ∧ g < w.heap.size := by
  have hb : xs[i].ownBlock = some g := by rw [hx]; rfl
  have hmem := List.getElem_mem hi'
  have hown := h.e.own i hi hi'
  have hlt := h.e.blk hmem hb
  rw [hx] at hown
  have hn : L[i].length = n := by
    rcases hown.2 with ⟨e, _⟩ | ⟨_, _, _, e, _⟩
    · cases e
    · injection e with _ e2 _
      exact e2.symm
  rw [← hn] at hown
  have keep : ∀ b, b ≠ g → (w.setCell ⟨g, k, none⟩ (.int .u8 (u.toNat : Int))).heap[b]? = w.heap[b]? := fun b hne => Below.heap_setCell _ _ _ _ (by simpa using hne)
  have hst := hown.stored k (.int .u8 (u.toNat : Int))
  have hce := hown.cellAt k (by omega)
  rw [bv_at, List.getElem?_eq_getElem hk] at hce
  refine ⟨⟨own_keep h.o fun b hb2 => keep b fun e => by subst e; exact (h.d1 _ hmem _ hb).1 hb2, own_keep h.h fun b hb2 => keep b fun e => by subst e; exact (h.d1 _ hmem _ hb).2 hb2, ⟨by rw [List.length_set]; exact h.e.len, fun j hj hj' => ?_, h.e.dis⟩, h.d1, h.d2⟩, hce, hown.frozenAt k, hlt⟩
  by_cases hij : i = j
  · subst hij
    rw [List.getElem_set_self, List.length_set, ← bv_set, hx, ← hn]
    exact hst.1
  · rw [List.getElem_set_ne hij]
    have hjL : j < L.length := by rw [List.length_set] at hj; exact hj
    exact own_keep (h.e.own j hjL hj') fun b hb2 => keep b fun e => by subst e; exact h.e.dis i j hi' hj' hij _ hb hb2
end
theorem Three.rs {w : World} {base m mh c : Nat} {A : Option Addr} {vh : Value} {xs hs : List Value} {L : List (List UInt8)} {S : List Nat} (h : Three w base (.slice A m c) vh m xs L mh hs) (hS : ∀ s, s ∈ S → s < base) : RsX w S A m L := by
  have hv := Vs.of_own h.o
  have hlen := h.o.1
  refine ⟨by rw [h.e.len, hlen]; omega, fun i hi => ?_⟩
  have hi' : i < xs.length := by rw [← h.e.len]; exact hi
  have hei := h.e.own i hi hi'
  obtain ⟨A', c', hx, hc1, hc2⟩ := own_form hei
  obtain ⟨ad, rfl, hb, hc⟩ := Vs.rd hv i _ (List.getElem?_eq_getElem hi')
  obtain ⟨g, hg, hg1, hg2⟩ := own_some h.o (by omega)
  injection hg with hg
  subst hg
  rw [hx] at hc hei
  refine ⟨_, A', _, c', rfl, hb, fun hm => by have := hS _ hm; simp at this; omega, hc, hc1, hc2, Bs.of_own hei, fun a' ha hn hm => ?_⟩
  obtain ⟨g', hg', hg3, _⟩ := own_some hei hn
  rw [ha] at hg'
  injection hg' with hg'
  subst hg'
  have := hS _ hm
  simp at this
  omega
theorem Three.last {w : World} {base m mh : Nat} {vo vh u : Value} {xs hs : List Value} {L : List (List UInt8)} {l : List UInt8} (h : Three w base vo vh m (xs ++ [u]) (L ++ [l]) mh hs) : w.ownsRow base 5 1 u l.length (bv l) := by
  have hlen := h.e.len
  simp at hlen
  have := h.e.own L.length (by simp) (by simp; omega)
  have e1 : (L ++ [l])[L.length]'(by simp) = l := by simp
  have e2 : (xs ++ [u])[L.length]'(by simp; omega) = u := by
    rw [List.getElem_append_right (by omega)]
    simp
  rw [e1, e2] at this
  exact this
theorem Three.at_ {w : World} {base m mh co i : Nat} {Ao : Option Addr} {vh : Value} {xs hs : List Value} {L : List (List UInt8)} (h : Three w base (.slice Ao m co) vh m xs L mh hs) (hi : i < m) {l : List UInt8} (hl : L[i]? = some l) :
    ∃ go A' c', Ao = some ⟨go, 0, none⟩ ∧ w.cell? ⟨go, i, none⟩ = some (.slice A' l.length c') ∧ xs[i]? = some (.slice A' l.length c') ∧ Bs w w.heap.size A' l.length l ∧ (0 < l.length → ∃ ge, A' = some ⟨ge, 0, none⟩) := by
  obtain ⟨hiL, e⟩ := List.getElem?_eq_some_iff.1 hl
  have hi' : i < xs.length := by rw [← h.e.len]; exact hiL
  have hei := h.e.own i hiL hi'
  rw [e] at hei
  obtain ⟨A', c', hx, _, _⟩ := own_form hei
  rw [hx] at hei
  obtain ⟨g, rfl, _, _⟩ := own_some h.o (by omega)
  refine ⟨g, A', c', rfl, ?_, ?_, Bs.of_own hei, fun h0 => ?_⟩
  · rw [h.o.cellAt i (by omega), List.getElem?_eq_getElem hi', hx]
  · rw [List.getElem?_eq_getElem hi', hx]
  · obtain ⟨ge, hge, _⟩ := own_some hei h0
    exact ⟨ge, hge⟩
theorem Three.had {w : World} {base m mh ch i : Nat} {Ah : Option Addr} {vo : Value} {xs : List Value} {L M : List (List UInt8)} (h : Three w base vo (.slice Ah mh ch) m xs L mh (tv M)) (hi : i < mh) {l : List UInt8} (hl : M[i]? = some l) :
    ∃ gh, Ah = some ⟨gh, 0, none⟩ ∧ w.cell? ⟨gh, i, none⟩ = some (.string (str l)) := by
  obtain ⟨g, rfl, _, _⟩ := own_some h.h (by omega)
  refine ⟨g, rfl, ?_⟩
  rw [h.h.cellAt i (by omega)]
  simp [tv, hl]
theorem Three.put {w : World} {base m mh i k g n c : Nat} {vo vh : Value} {xs hs : List Value} {L : List (List UInt8)} (u : UInt8) (h : Three w base vo vh m xs L mh hs) {l : List UInt8} (hl : L[i]? = some l) (hx : xs[i]? = some (.slice (some ⟨g, 0, none⟩) n c)) (hk : k < l.length) :
    Three (w.setCell ⟨g, k, none⟩ (.int .u8 (u.toNat : Int))) base vo vh m xs (L.set i (l.set k u)) mh hs ∧ (∃ z : Nat, z < 256 ∧ w.cell? ⟨g, k, none⟩ = some (.int .u8 (z : Int))) ∧ w.frozen? ⟨g, k, none⟩ = false ∧ base ≤ g ∧ g < w.heap.size := by
  obtain ⟨hiL, rfl⟩ := List.getElem?_eq_some_iff.1 hl
  obtain ⟨hi', e⟩ := List.getElem?_eq_some_iff.1 hx
  obtain ⟨a1, a2, a3⟩ := h.store (u := u) hiL hi' e hk
  exact ⟨a1, ⟨_, L[i][k].toNat_lt, a2⟩, a3⟩
end Go.Proofs.Ytgaplcgenlphdaa
