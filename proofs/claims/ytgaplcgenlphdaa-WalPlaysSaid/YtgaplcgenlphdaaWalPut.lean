/- WHAT A LOG's WRITES MAKE OF A DISK, whatever write the power goes at. No program. -/
import Derived.Test.YtgaplcgenlphdaaWalDisk
namespace Go.Proofs.Ytgaplcgenlphdaa
open Go.RowKit Mem
namespace Wal

theorem secsAll_length : ∀ (rs : Secs), (∀ r ∈ rs, r.length ≤ 1000) → (secsAll rs).length = sizes rs
  | [], _ => rfl
  | r :: rs, h => by
    have ih := secsAll_length rs fun x hx => h x (by simp [hx])
    unfold secsAll sizes at *
    rw [List.flatMap_cons, List.length_append, ih, secsOf_length r (h r (by simp)), List.map_cons, List.sum_cons]
theorem secsAll_le {rs : Secs} (h : ∀ r ∈ rs, r.length ≤ 1000) : ∀ c ∈ secsAll rs, c.length ≤ 128 := fun c hc => by
  obtain ⟨r, hr, hc⟩ := List.mem_flatMap.1 hc
  exact secsOf_le r (h r hr) c hc
theorem secsAll_fill : ∀ (rs : Secs), (∀ r ∈ rs, r.length ≤ 1000) → ((secsAll rs).map fill).flatten = (rs.map padded).flatten
  | [], _ => rfl
  | r :: rs, h => by
    have ih := secsAll_fill rs fun x hx => h x (by simp [hx])
    unfold secsAll at *
    rw [List.flatMap_cons, List.map_append, List.flatten_append, ih, secsOf_fill r (h r (by simp)), List.map_cons, List.flatten_cons]
theorem padded_all : ∀ (rs : Secs), (rs.map padded).flatten.length = sizes rs * 128
  | [] => by simp [sizes]
  | r :: rs => by
    have ih := padded_all rs
    unfold sizes at *
    rw [List.map_cons, List.flatten_cons, List.length_append, ih, padded_length, List.map_cons, List.sum_cons, Nat.add_mul]
theorem parse_all : ∀ (rs : Secs) (f : Nat), (∀ r ∈ rs, r.length ≤ 1000) → sizes rs ≤ f → parse f (rs.map padded).flatten = some rs
  | [], f, _, _ => parse_nil f
  | r :: rs, f, h, hf => by
    have hr := h r (by simp)
    have hf' : size r.length + sizes rs ≤ f := by simpa [sizes] using hf
    have ih := parse_all rs f (fun x hx => h x (by simp [hx])) (by omega)
    have h1 := parse_append (size r.length) f (padded r) [r] _ (sizes rs) (padded_length r) (padded_all rs) hf' (parse_one r f hr (by omega))
    rw [List.map_cons, List.flatten_cons, h1, ih]
    rfl
theorem hdr_len (s u : Nat) : (hdr s u).length = 128 := fill_length _
theorem hdr_at (s u : Nat) : ∃ t, hdr s u = UInt8.ofNat s :: UInt8.ofNat u :: UInt8.ofNat (u / 256) :: t := ⟨_, rfl⟩
theorem norm_hdr {n s u : Nat} (hs : s ≤ 1) (hu : u ≤ half n) (hn : n ≤ 256) : norm n (hdr s u) = (s, u) := by
  obtain ⟨t, ht⟩ := hdr_at s u
  have h2 : half n ≤ 126 := by unfold half; omega
  have e1 : hside (hdr s u) = s := by rw [ht]; unfold hside; simp; omega
  have e2 : hused (hdr s u) = u := by rw [ht]; unfold hused; simp; omega
  unfold norm
  rw [e1, e2, if_neg (by omega)]
theorem sec_eq {S S' : Secs} {i : Nat} (h : S'[i]? = S[i]?) : sec S' i = sec S i := by
  unfold sec
  rw [List.getD_eq_getElem?_getD, List.getD_eq_getElem?_getD, h]
theorem content_put (S : Secs) (C : Secs) (b0 u : Nat) (h : b0 + u + C.length ≤ S.length) : ((puts S (place (b0 + u) C)).drop b0).take (u + C.length) = (S.drop b0).take u ++ C.map fill := by
  rw [puts_place C _ S h, List.drop_append_of_le_length (by rw [List.length_take]; omega)]
  have e : (S.take (b0 + u)).drop b0 = (S.drop b0).take u := by
    rw [List.drop_take]
    congr 1
    omega
  have l : ((S.drop b0).take u).length = u := by rw [List.length_take, List.length_drop]; omega
  rw [e, ← List.append_assoc, List.take_append_of_le_length (by rw [List.length_append, l, List.length_map]; exact Nat.le_refl _), List.take_of_length_le (by rw [List.length_append, l, List.length_map]; exact Nat.le_refl _)]

/-- Where the writes go: behind what counts, or the other half. -/
structure Ok (n : Nat) (L : LS) (A rs : Secs) (side at_ : Nat) (B : Secs) : Prop where
  w : (side = L.side ∧ at_ = L.used ∧ B = A ++ rs) ∨ (side = 1 - L.side ∧ at_ = 0 ∧ B = rs)
  ls : L.side ≤ 1
  lu : L.used ≤ half n
  len : ∀ r ∈ rs, r.length ≤ 1000
  fits : at_ + sizes rs ≤ half n
theorem Ok.side1 {n : Nat} {L : LS} {A rs B : Secs} {side at_ : Nat} (k : Ok n L A rs side at_ B) : side ≤ 1 := by
  have := k.ls
  rcases k.w with ⟨h, _⟩ | ⟨h, _⟩ <;> omega
/-- What is written does not lie where the old records do. -/
theorem Ok.far {n : Nat} {L : LS} {A rs B : Secs} {side at_ : Nat} (k : Ok n L A rs side at_ B) {i j : Nat} (h1 : 3 + side * half n + at_ ≤ i) (h2 : i < 3 + side * half n + at_ + sizes rs)
    (h3 : 3 + L.side * half n ≤ j) (h4 : j < 3 + L.side * half n + L.used) : i ≠ j := by
  have hl := k.ls
  have hu := k.lu
  have hf := k.fits
  have hw := k.w
  obtain ⟨s, u, dd⟩ := L
  simp only at *
  have hc : s = 0 ∨ s = 1 := by omega
  rcases hw with ⟨rfl, rfl, _⟩ | ⟨rfl, rfl, _⟩
  · omega
  · rcases hc with rfl | rfl
    · simp only [Nat.sub_zero, Nat.one_mul, Nat.zero_mul, Nat.add_zero] at *
      omega
    · simp only [Nat.sub_self, Nat.one_mul, Nat.zero_mul, Nat.add_zero] at *
      omega

theorem putW_good {d : DS} {L : LS} {A rs B : Secs} {side at_ : Nat} {h : List UInt8} (hw : WF d) (hdn : d.down = false) (hn : 7 ≤ d.secs.length) (hn2 : d.secs.length ≤ 256) (hg : Good d.secs h A) (hnm : norm d.secs.length h = (L.side, L.used)) (k : Ok d.secs.length L A rs side at_ B) :
    (∃ d', putW d L rs side at_ = (d', ⟨side, at_ + sizes rs, false⟩, 0) ∧ d'.down = false ∧ WF d' ∧ d'.secs.length = d.secs.length ∧ (∃ h', Good d'.secs h' B ∧ norm d.secs.length h' = (side, at_ + sizes rs)) ∧ d'.writes ≤ d.writes + 256 ∧ (d.left = none → d'.left = none)) ∨
    (∃ d', putW d L rs side at_ = (d', ⟨L.side, L.used, true⟩, 26) ∧ d'.down = true ∧ WF d' ∧ d'.secs.length = d.secs.length ∧ (May d'.secs A A ∨ May d'.secs A B) ∧ d'.writes ≤ d.writes + 256 ∧ d'.left = none ∧ d.left ≠ none) := by
  have hsl := secsAll_length rs k.len
  have hs1 := k.side1
  have harea := area hs1 k.fits hn
  have hfit := k.fits
  have hh126 : half d.secs.length ≤ 126 := by unfold half; omega
  obtain ⟨C, hC⟩ : ∃ C, secsAll rs = C := ⟨_, rfl⟩
  rw [hC] at hsl
  obtain ⟨h', hh'⟩ : ∃ h', hdr side (at_ + sizes rs) = h' := ⟨_, rfl⟩
  have hl' : h'.length = 128 := by rw [← hh']; exact hdr_len _ _
  have hf' := fill_full hl'
  have hnm' : norm d.secs.length h' = (side, at_ + sizes rs) := by rw [← hh']; exact norm_hdr hs1 k.fits hn2
  obtain ⟨ws, hws⟩ : ∃ ws, writes d.secs.length side at_ rs = ws := ⟨_, rfl⟩
  have hws2 : ws = place (3 + side * half d.secs.length + at_) C ++ heads h' := by rw [← hws]; unfold writes; rw [hC, hh']
  have hpl : (place (3 + side * half d.secs.length + at_) C).length = sizes rs := by rw [place_length, hsl]
  have hwl : ws.length = sizes rs + 3 := by rw [hws2, List.length_append, hpl]; rfl
  have hrange : ∀ x ∈ ws, x.1 < d.secs.length ∧ x.2.length ≤ 128 := by
    intro x hx
    rw [hws2] at hx
    rcases List.mem_append.1 hx with hx | hx
    · have h1 := place_range C _ x hx
      exact ⟨by omega, secsAll_le k.len _ (by rw [hC]; exact h1.2.2)⟩
    · simp only [heads, List.mem_cons, List.not_mem_nil, or_false] at hx
      rcases hx with rfl | rfl | rfl <;> exact ⟨by simp only; omega, by simp only; omega⟩
  have hc := wrAll_cases ws d hdn hw hrange
  obtain ⟨n, hnn⟩ : ∃ n, d.secs.length = n := ⟨_, rfl⟩
  -- what the records' sectors alone make of it
  have hfar : ∀ (D : Secs), D.length ≤ C.length → ∀ j, j < 3 + side * half d.secs.length + at_ ∨ (3 + L.side * half d.secs.length ≤ j ∧ j < 3 + L.side * half d.secs.length + L.used) → (puts d.secs (place (3 + side * half d.secs.length + at_) D))[j]? = d.secs[j]? := by
    intro D hD j hj
    refine puts_other j _ _ fun x hx => ?_
    have h1 := place_range D _ x hx
    rcases hj with hj | ⟨hj1, hj2⟩
    · omega
    · exact k.far h1.1 (by omega) hj1 hj2
  have hS1A : Says (puts d.secs (place (3 + side * half d.secs.length + at_) C)) h A := by
    refine hg.2.2.2.congr (puts_length _ _) fun i h1 h2 => ?_
    rw [hnm] at h1 h2
    exact hfar C (Nat.le_refl _) i (.inr ⟨h1, h2⟩)
  have hS1B : Says (puts d.secs (place (3 + side * half d.secs.length + at_) C)) h' B := by
    unfold Says content
    rw [puts_length, hnm']
    simp only
    rw [← hsl, content_put d.secs C _ at_ (by omega), List.flatten_append, ← hC, secsAll_fill rs k.len, secsAll_length rs k.len]
    rcases k.w with ⟨e1, e2, e3⟩ | ⟨e1, e2, e3⟩
    · have ha := hg.2.2.2
      unfold Says content at ha
      rw [hnm] at ha
      simp only at ha
      rw [e1, e2, e3]
      have hla : (List.take L.used (List.drop (3 + L.side * half d.secs.length) d.secs)).flatten.length = L.used * 128 := content_length hw.1 (s := L.side) (u := L.used) (area k.ls k.lu hn)
      rw [parse_append L.used (L.used + sizes rs) _ A _ (sizes rs) hla (padded_all rs) (Nat.le_refl _) (by rw [parse_fuel L.used _ L.used _ hla (by omega) (Nat.le_refl _)]; exact ha), parse_all rs _ k.len (by omega)]
      rfl
    · rw [e2, e3]
      simp only [List.take_zero, List.flatten_nil, List.nil_append, Nat.zero_add]
      exact parse_all rs _ k.len (Nat.le_refl _)
  have hS1h : ∀ i, i < 3 → sec (puts d.secs (place (3 + side * half d.secs.length + at_) C)) i = sec d.secs i := fun i hi => sec_eq (hfar C (Nat.le_refl _) i (.inl (by omega)))
  have hS1l := puts_length (place (3 + side * half d.secs.length + at_) C) d.secs
  rcases hc with ⟨d', g1, g2, g3, g4, g5, g6⟩ | ⟨d', j, t, hjl, g1, g2, g3, g4, g5, g6, g7, g8⟩
  · refine .inl ⟨d', ?_, g2, g3, by rw [g4, puts_length], ⟨h', ?_, hnm'⟩, by omega, g6⟩
    · unfold putW
      rw [hws, g1]
      rfl
    · rw [g4, hws2, puts_append]
      generalize puts d.secs (place (3 + side * half d.secs.length + at_) C) = S1 at *
      have n0 : 0 < S1.length := by omega
      have n1 : 1 < S1.length := by omega
      have n2 : 2 < S1.length := by omega
      refine ⟨?_, ?_, ?_, hS1B.heads (puts_length _ _) fun i hi => puts_other i _ _ fun x hx => ?_⟩
      · simp [heads, puts, hf', sec_set, n0]
      · simp [heads, puts, hf', sec_set, n1]
      · simp [heads, puts, hf', sec_set, n2]
      · simp only [heads, List.mem_cons, List.not_mem_nil, or_false] at hx
        rcases hx with rfl | rfl | rfl <;> simp only <;> omega
  · refine .inr ⟨d', ?_, g2, g3, by rw [g7, List.length_set, puts_length], ?_, by omega, g4, g5⟩
    · unfold putW
      rw [hws, g1]
      rfl
    · by_cases hj : j < sizes rs
      · left
        have htk : ws.take j = place (3 + side * half d.secs.length + at_) (C.take j) := by
          rw [hws2, List.take_append_of_le_length (by omega), place_take]
        have hidx : 3 + side * half d.secs.length + at_ ≤ ws[j].1 ∧ ws[j].1 < 3 + side * half d.secs.length + at_ + sizes rs := by
          have hm : ws[j] ∈ place (3 + side * half d.secs.length + at_) C := by
            have e : ws[j] = (place (3 + side * half d.secs.length + at_) C)[j] := by
              simp only [hws2]
              exact List.getElem_append_left (by omega)
            rw [e]
            exact List.getElem_mem _
          have := place_range C _ _ hm
          omega
        have hother : ∀ i, i < 3 + side * half d.secs.length + at_ ∨ (3 + L.side * half d.secs.length ≤ i ∧ i < 3 + L.side * half d.secs.length + L.used) → d'.secs[i]? = d.secs[i]? := by
          intro i hi
          rw [g7, htk, List.getElem?_set_ne ?_]
          · exact hfar (C.take j) (by rw [List.length_take]; omega) i hi
          · rcases hi with hi | ⟨h1, h2⟩
            · omega
            · exact k.far hidx.1 hidx.2 h1 h2
        have hgood : Good d'.secs h A := by
          refine ⟨(sec_eq (hother 0 (.inl (by omega)))).trans hg.1, (sec_eq (hother 1 (.inl (by omega)))).trans hg.2.1, (sec_eq (hother 2 (.inl (by omega)))).trans hg.2.2.1, ?_⟩
          refine hg.2.2.2.congr (by rw [g7, List.length_set, puts_length]) fun i h1 h2 => ?_
          rw [hnm] at h1 h2
          exact hother i (.inr ⟨h1, h2⟩)
        exact hgood.may
      · right
        obtain ⟨q, rfl⟩ : ∃ q, j = sizes rs + q := ⟨j - sizes rs, by omega⟩
        have hq : q < 3 := by omega
        have htk : ws.take (sizes rs + q) = place (3 + side * half d.secs.length + at_) C ++ (heads h').take q := by
          rw [hws2, List.take_append, List.take_of_length_le (by omega), hpl, Nat.add_sub_cancel_left]
        have hidx : ws[sizes rs + q].1 = q := by
          have e : ws[sizes rs + q] = (heads h')[q]'(by simpa [heads] using hq) := by
            simp only [hws2]
            rw [List.getElem_append_right (by omega)]
            simp only [hpl, Nat.add_sub_cancel_left]
          rw [e]
          have : q = 0 ∨ q = 1 ∨ q = 2 := by omega
          rcases this with rfl | rfl | rfl <;> rfl
        rw [g7, hidx, htk, puts_append]
        have e0 := (hS1h 0 (by omega)).trans hg.1
        have e1 := (hS1h 1 (by omega)).trans hg.2.1
        have e2 := (hS1h 2 (by omega)).trans hg.2.2.1
        generalize puts d.secs (place (3 + side * half d.secs.length + at_) C) = S1 at *
        have n0 : 0 < S1.length := by omega
        have n1 : 1 < S1.length := by omega
        have n2 : 2 < S1.length := by omega
        have hh : ∀ i, 3 ≤ i → ((puts S1 ((heads h').take q)).set q t)[i]? = S1[i]? := fun i hi => by
          rw [List.getElem?_set_ne (by omega)]
          refine puts_other i _ _ fun x hx => ?_
          have hx := List.mem_of_mem_take hx
          simp only [heads, List.mem_cons, List.not_mem_nil, or_false] at hx
          rcases hx with rfl | rfl | rfl <;> simp only <;> omega
        have hl2 : ((puts S1 ((heads h').take q)).set q t).length = S1.length := by rw [List.length_set, puts_length]
        refine ⟨h, h', hS1A.heads hl2 hh, hS1B.heads hl2 hh, ?_⟩
        have : q = 0 ∨ q = 1 ∨ q = 2 := by omega
        rcases this with rfl | rfl | rfl
        · exact .inl (by simp [heads, puts, sec_set, e1, e2])
        · exact .inr (.inl (by simp [heads, puts, sec_set, hf', n0, e2]))
        · exact .inr (.inr (by simp [heads, puts, sec_set, hf', n0, n1]))
end Wal
end Go.Proofs.Ytgaplcgenlphdaa
