/- A LOG AND ITS RECORDS: what Open, Append, Replace tell of them. No program. -/
import Derived.Test.YtgaplcgenlphdaaWalPut
namespace Go.Proofs.Ytgaplcgenlphdaa
open Go.RowKit Mem
namespace Wal

/-- The power is there; the disk says rs, and the log knows. -/
structure Live (d : DS) (L : LS) (rs : Secs) : Prop where
  wf : WF d
  dn : d.down = false
  n7 : 7 ≤ d.secs.length
  n256 : d.secs.length ≤ 256
  alive : L.dead = false
  good : ∃ h, Good d.secs h rs ∧ norm d.secs.length h = (L.side, L.used)
/-- The disk says A, or B, when the power comes back. -/
structure Either (d : DS) (A B : Secs) : Prop where
  wf : WF d
  n7 : 7 ≤ d.secs.length
  n256 : d.secs.length ≤ 256
  may : May d.secs A A ∨ May d.secs A B

theorem Live.half {d : DS} {L : LS} {rs : Secs} (h : Live d L rs) : L.side ≤ 1 ∧ L.used ≤ half d.secs.length := by
  obtain ⟨t, _, h2⟩ := h.good
  have := norm_bound d.secs.length t
  rw [h2] at this
  exact this
theorem Live.sizes {d : DS} {L : LS} {rs : Secs} (h : Live d L rs) : L.used = sizes rs ∧ ∀ r ∈ rs, r.length ≤ 1000 := by
  obtain ⟨t, h1, h2⟩ := h.good
  have hh := h.half
  have hs := h1.2.2.2
  unfold Says at hs
  rw [h2] at hs
  have hl := content_length h.wf.1 (s := L.side) (u := L.used) (area hh.1 hh.2 h.n7)
  have := parse_sizes L.used L.used _ rs hl (Nat.le_refl _) hs
  exact ⟨this.1.symm, this.2⟩
theorem Live.either {d : DS} {L : LS} {rs : Secs} (h : Live d L rs) (B : Secs) : Either d rs B := by
  obtain ⟨t, h1, _⟩ := h.good
  exact ⟨h.wf, h.n7, h.n256, .inl h1.may⟩
theorem openD_may {d : DS} {A B : Secs} (hw : WF d) (hdn : d.down = false) (hn : 7 ≤ d.secs.length) (hn2 : d.secs.length ≤ 256) (h : May d.secs A B) :
    (∃ d' s u rs, openD d = (d', .inr (s, u, rs)) ∧ Live d' ⟨s, u, false⟩ rs ∧ (rs = A ∨ rs = B) ∧ d'.secs.length = d.secs.length ∧ d'.writes ≤ d.writes + 3 ∧ (d.left = none → d'.left = none)) ∨
    (∃ d', openD d = (d', .inl 26) ∧ d'.down = true ∧ WF d' ∧ May d'.secs A B ∧ d'.secs.length = d.secs.length ∧ d'.writes ≤ d.writes + 3 ∧ d'.left = none ∧ d.left ≠ none) := by
  have hnl : ¬ d.secs.length < 7 := by omega
  rcases settle_may hw hdn hn h with ⟨d', g1, g2, g3, g4, g5, g6, g7⟩ | ⟨d', g1, g2, g3, g4, g5, g6, g7, g8⟩
  · left
    have key : ∃ rs, Good d'.secs (hd d.secs) rs ∧ (rs = A ∨ rs = B) := by
      rcases g5 with g5 | g5
      · exact ⟨A, g5, .inl rfl⟩
      · exact ⟨B, g5, .inr rfl⟩
    obtain ⟨rs, hg, hrs⟩ := key
    have hs := hg.2.2.2
    unfold Says at hs
    rw [g4] at hs
    refine ⟨d', (norm d.secs.length (hd d.secs)).1, (norm d.secs.length (hd d.secs)).2, rs, ?_, ⟨g3, g2, by omega, by omega, rfl, ⟨_, hg, by rw [g4]⟩⟩, hrs, g4, g6, g7⟩
    unfold openD
    rw [if_neg hnl, hdn, g1]
    simp only [Bool.false_eq_true, if_false, if_true]
    unfold openR
    rw [hs]
  · right
    refine ⟨d', ?_, g2, g3, g5, g4, g6, g7, g8⟩
    unfold openD
    rw [if_neg hnl, hdn, g1]
    rfl
theorem openD_either {d : DS} {A B : Secs} (h : Either d A B) (hdn : d.down = false) :
    (∃ d' s u rs, openD d = (d', .inr (s, u, rs)) ∧ Live d' ⟨s, u, false⟩ rs ∧ (rs = A ∨ rs = B) ∧ d'.secs.length = d.secs.length ∧ d'.writes ≤ d.writes + 3 ∧ (d.left = none → d'.left = none)) ∨
    (∃ d', openD d = (d', .inl 26) ∧ d'.down = true ∧ Either d' A B ∧ d'.secs.length = d.secs.length ∧ d'.writes ≤ d.writes + 3 ∧ d'.left = none ∧ d.left ≠ none) := by
  rcases h.may with hm | hm
  · rcases openD_may h.wf hdn h.n7 h.n256 hm with ⟨d', s, u, rs, a1, a2, a3, r⟩ | ⟨d', a1, a2, a3, a4, a5, r⟩
    · exact .inl ⟨d', s, u, rs, a1, a2, by rcases a3 with a3 | a3 <;> exact .inl a3, r⟩
    · have h7 := h.n7
      have h2 := h.n256
      exact .inr ⟨d', a1, a2, ⟨a3, by omega, by omega, .inl a4⟩, a5, r⟩
  · rcases openD_may h.wf hdn h.n7 h.n256 hm with ⟨d', s, u, rs, r⟩ | ⟨d', a1, a2, a3, a4, a5, r⟩
    · exact .inl ⟨d', s, u, rs, r⟩
    · have h7 := h.n7
      have h2 := h.n256
      exact .inr ⟨d', a1, a2, ⟨a3, by omega, by omega, .inr a4⟩, a5, r⟩

/-- What a call that puts records tells, and leaves. -/
theorem putD_live {d : DS} {L : LS} {A rs B : Secs} {side at_ : Nat} (h : Live d L A) (hB : (side = L.side ∧ at_ = L.used ∧ B = A ++ rs) ∨ (side = 1 - L.side ∧ at_ = 0 ∧ B = rs)) :
    (tooLong rs = true ∧ putD d L rs side at_ = (d, L, 4)) ∨
    (tooLong rs = false ∧ half d.secs.length < at_ + sizes rs ∧ putD d L rs side at_ = (d, L, 6)) ∨
    (tooLong rs = false ∧ at_ + sizes rs ≤ half d.secs.length ∧
      ((∃ d' L', putD d L rs side at_ = (d', L', 0) ∧ Live d' L' B ∧ d'.secs.length = d.secs.length ∧ d'.writes ≤ d.writes + 256 ∧ (d.left = none → d'.left = none)) ∨
       (∃ d' L', putD d L rs side at_ = (d', L', 26) ∧ L'.dead = true ∧ L'.side ≤ 1 ∧ L'.used ≤ 126 ∧ d'.down = true ∧ Either d' A B ∧ d'.secs.length = d.secs.length ∧ d'.writes ≤ d.writes + 256 ∧ d'.left = none ∧ d.left ≠ none))) := by
  have hh := h.half
  have h7 := h.n7
  have h256 := h.n256
  obtain ⟨s, u, dd⟩ := L
  have hal := h.alive
  simp only at hal
  subst hal
  have hput : putD d ⟨s, u, false⟩ rs side at_ = if tooLong rs then (d, ⟨s, u, false⟩, 4) else if half d.secs.length < at_ + sizes rs then (d, ⟨s, u, false⟩, 6) else putW d ⟨s, u, false⟩ rs side at_ := by
    unfold putD
    rw [if_neg (by simp [h.dn])]
  cases ht : tooLong rs with
  | true => exact .inl ⟨rfl, by rw [hput, if_pos ht]⟩
  | false =>
    rw [ht] at hput
    simp only [Bool.false_eq_true, if_false] at hput
    by_cases hf : half d.secs.length < at_ + sizes rs
    · exact .inr (.inl ⟨rfl, hf, by rw [hput, if_pos hf]⟩)
    · rw [if_neg hf] at hput
      have hle : ∀ r ∈ rs, r.length ≤ 1000 := by
        intro r hr
        unfold tooLong at ht
        rw [List.any_eq_false] at ht
        have := ht r hr
        simp at this
        omega
      obtain ⟨t, g1, g2⟩ := h.good
      have hok : Ok d.secs.length ⟨s, u, false⟩ A rs side at_ B := ⟨hB, hh.1, hh.2, hle, by omega⟩
      refine .inr (.inr ⟨rfl, by omega, ?_⟩)
      rcases putW_good h.wf h.dn h.n7 h.n256 g1 g2 hok with ⟨d', a1, a2, a3, a4, ⟨h', a5, a6⟩, a7, a8⟩ | ⟨d', a1, a2, a3, a4, a5, a6, a7, a8⟩
      · exact .inl ⟨d', _, by rw [hput]; exact a1, ⟨a3, a2, by omega, by omega, rfl, ⟨h', a5, by rw [a4]; exact a6⟩⟩, a4, a7, a8⟩
      · have h126 : half d.secs.length ≤ 126 := by unfold half; omega
        have hu := hh.2
        simp only at hu
        exact .inr ⟨d', ⟨s, u, true⟩, by rw [hput]; exact a1, rfl, hh.1, by simp only; omega, a2, ⟨a3, by omega, by omega, a5⟩, a4, a6, a7, a8⟩

/-! A new disk. -/
theorem fresh_live {n : Nat} (h7 : 7 ≤ n) (h256 : n ≤ 256) : ∃ d', openD (DS.fresh n) = (d', .inr (0, 0, [])) ∧ Live d' ⟨0, 0, false⟩ [] ∧ d'.secs.length = n ∧ d'.writes ≤ 3 ∧ d'.left = none := by
  have hl : (DS.fresh n).secs.length = n := by simp [DS.fresh]
  have hw : WF (DS.fresh n) := by
    refine ⟨fun s hs => ?_, fun n t h => by cases h⟩
    rw [List.eq_of_mem_replicate (show s ∈ List.replicate n (List.replicate 128 0) from hs), List.length_replicate]
  have hsec : ∀ i, i < n → sec (DS.fresh n).secs i = List.replicate 128 0 := by
    intro i hi
    unfold sec DS.fresh
    simp [hi]
  have hnorm : norm n (List.replicate 128 0) = (0, 0) := by
    unfold norm hside hused
    simp
  have hg : Good (DS.fresh n).secs (List.replicate 128 0) [] := by
    refine ⟨hsec 0 (by omega), hsec 1 (by omega), hsec 2 (by omega), ?_⟩
    unfold Says
    rw [hl, hnorm]
    exact parse_nil _
  rcases openD_may hw rfl (by omega) (by omega) hg.may with ⟨d', s, u, rs, a1, a2, a3, a4, a5, a6⟩ | ⟨d', _, _, _, _, _, _, _, a8⟩
  · have hrs : rs = [] := by rcases a3 with a3 | a3 <;> exact a3
    subst hrs
    have hlv : s = 0 ∧ u = 0 := by
      have he := a1
      unfold openD at he
      rw [if_neg (by omega)] at he
      have hdn : (DS.fresh n).down = false := rfl
      rw [hdn] at he
      simp only [Bool.false_eq_true, if_false] at he
      have hhd : hd (DS.fresh n).secs = List.replicate 128 0 := by unfold hd most; rw [hsec 0 (by omega), hsec 1 (by omega), hsec 2 (by omega)]; simp
      rw [hhd, hl, hnorm] at he
      split at he
      · unfold openR at he
        have hp : ∀ X, parse 0 X = some [] := fun X => rfl
        rw [hp] at he
        simp only [Prod.mk.injEq, Sum.inr.injEq] at he
        exact ⟨he.2.1.symm, he.2.2.1.symm⟩
      · simp at he
    obtain ⟨rfl, rfl⟩ := hlv
    exact ⟨d', a1, a2, by omega, by simpa [DS.fresh] using a5, a6 rfl⟩
  · exact absurd rfl a8
end Wal
end Go.Proofs.Ytgaplcgenlphdaa
