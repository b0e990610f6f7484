/- THE WALKS of ids.Set and ids.Within. -/
import Derived.Test.YtjndogfbhhbfcaaDoorIdsSet
namespace Go.Proofs.YtjndogfbhhbfcaaDoor
open Go.RowKit Mem Go.Sort Go.Lib

abbrev Fits := { x : List UInt8 // x.length ≤ 9223372036854775807 }
instance : Inhabited Fits := ⟨⟨[], by simp⟩⟩
def encF (x : Fits) : Value := .string (str x.1)
theorem set1_any (l : List UInt8) (w : World) (hl : l.length ≤ 9223372036854775807) : Calls Tryd.prog 31 #[.string (str l)] w fun e w' => e = .returned (.bool (!Ids.selector l)) ∧ ∃ q, w' = w.drewN q := by
  have h := selector_any l w hl
  generalize Ids.selector l = b at *
  go_enter Tryd.func31, Tryd.ntmps31
  go_wp2_with fail
  refine h.mono ?_
  rintro e w1 ⟨rfl, q, rfl⟩
  go_wp2
  go_ret
  exact ⟨rfl, q, rfl⟩
def fits (L : List (List UInt8)) (h : ∀ x ∈ L, x.length ≤ 9223372036854775807) : List Fits := L.attach.map fun x => ⟨x.1, h x.1 x.2⟩
theorem fits_length (L : List (List UInt8)) (h : ∀ x ∈ L, x.length ≤ 9223372036854775807) : (fits L h).length = L.length := by simp [fits]
theorem fits_at (L : List (List UInt8)) (h : ∀ x ∈ L, x.length ≤ 9223372036854775807) (j : Nat) (hj : j < L.length) : ((fits L h)[j]!).1 = L[j] := by
  rw [getElem!_pos _ j (by rw [fits_length]; exact hj)]
  simp [fits]
theorem fits_any (p : List UInt8 → Bool) (L : List (List UInt8)) (h : ∀ x ∈ L, x.length ≤ 9223372036854775807) : (fits L h).any (fun x => p x.1) = L.any p := by
  unfold fits
  rw [List.any_map]
  conv => rhs; rw [← List.attach_map_subtype_val L, List.any_map]
  rfl
theorem func_any (g : Nat) (lb : Array Value) (eg : ∀ args w, (callFunc g args).run Tryd.prog w = .ok (.enter g args) w) (p : List UInt8 → Bool) (A : Option Addr) (n c : Nat) (L : List (List UInt8)) (w : World) (h : Ts w A n L) (hn : n ≤ 9223372036854775807) (hlen : ∀ x ∈ L, x.length ≤ 9223372036854775807)
    (hp : ∀ (W : World) (x : List UInt8), x.length ≤ 9223372036854775807 → Below w.heap.size w W → Calls Tryd.prog g (#[.string (str x)] ++ lb) W fun e w' => e = .returned (.bool (p x)) ∧ ∃ q, w' = W.drewN q) :
    Calls Tryd.prog 30 #[.slice A n c, .func (.func g) #[] lb] w fun e w' => e = .returned (.bool (L.any p)) ∧ ∃ q, w' = w.drewN q := by
  have hl := h.len
  by_cases h0 : n = 0
  · subst h0
    obtain rfl := List.eq_nil_of_length_eq_zero hl
    refine (Tryd.slices_ContainsFunc_empty (α := Fits) A c _ w).mono ?_
    rintro e w' ⟨rfl, rfl⟩
    exact ⟨rfl, 0, rfl⟩
  · obtain ⟨b, off, rfl, hb, hc⟩ := cells_of_ts h (by omega)
    refine (Tryd.slices_ContainsFunc (α := Fits) encF (fun x => p x.1) g lb eg b off n c (fits L hlen) w (fun W x hW => hp W x.1 x.2 hW) (by rw [fits_length]; omega) hn (fun j hj => ?_)).mono ?_
    · rw [fits_length] at hj
      rw [hc j hj]
      unfold encF
      rw [fits_at L hlen j hj]
    · rintro e w' ⟨rfl, q, rfl⟩
      refine ⟨?_, q, rfl⟩
      rw [List.take_of_length_le (by rw [fits_length]; omega), fits_any]
theorem any_not (L : List (List UInt8)) (p : List UInt8 → Bool) : L.any (fun x => !p x) = !L.all p := by
  rw [List.not_all_eq_any_not]
set_option maxRecDepth 100000 in
theorem set_any (A : Option Addr) (n c : Nat) (L : List (List UInt8)) (w : World) (h : Ts w A n L) (hn : n * 16 ≤ 140737488355328) (hnil : A = none → n = 0) (hlen : ∀ x ∈ L, x.length ≤ 9223372036854775807) :
    Calls Tryd.prog 14 #[.slice A n c] w (SetOut w L) := by
  have hall := func_any 31 #[] (enters_of Tryd.func31 (by kernel_rfl) rfl) (fun x => !Ids.selector x) A n c L w h (by omega) hlen (fun W x hx _ => set1_any x W hx)
  rw [any_not] at hall
  cases hs : L.all Ids.selector
  · have hx : Hid (Ids.setOf L = (none, 13)) := Lib.hid (by unfold Ids.setOf; rw [hs]; rfl)
    rw [hs] at hall
    go_enter Tryd.func14, Tryd.ntmps14
    go_wp2_with fail
    refine hall.mono ?_
    rintro e w1 ⟨rfl, q, rfl⟩
    go_wp2
    go_ret2
    exact ⟨none, 0, 0, by rw [hx.out]; rfl, by omega, by rw [hx.out]; exact World.ownsRow_nil _ _ _ _, below_drewM _ _ _⟩
  · rw [hs] at hall
    have HS := Lib.hid hs
    clear hs
    go_enter Tryd.func14, Tryd.ntmps14
    go_wp2_with fail
    refine hall.mono ?_
    rintro e w1 ⟨rfl, q, rfl⟩
    have h1 : Ts (w.drewN q) A n L := h.below (below_drewM _ _ _)
    go_wp2_with fail
    refine (clone_any A n c L _ h1 hn hnil).mono ?_
    rintro e w2 ⟨v2, rfl, hown2, hb2⟩
    have hB2 : w.heap.size ≤ w2.heap.size := hb2.size
    go_wp2_with fail
    refine (sort_any w.heap.size v2 n L w2 hown2 hn hB2).mono ?_
    rintro e w3 ⟨rfl, hown3, hb3⟩
    go_wp2_with fail
    refine (compact_any w.heap.size v2 n _ w3 hown3 hn).mono ?_
    rintro e w4 ⟨A4, c4, rfl, hc4, hown4, hb4⟩
    have hu : Lib.compact (L.mergeSort fun x y => decide (x ≤ y)) = Ids.uniq L := rfl
    rw [hu] at hc4 hown4 ⊢
    have hB : Below w.heap.size w w4 := (((below_drewM _ w q).trans hb2).trans hb3).trans hb4
    obtain ⟨m, hm⟩ : ∃ m, (Ids.uniq L).length = m := ⟨_, rfl⟩
    have hset : Hid (Ids.setOf L = if 4 < m then (none, 4) else (some (Ids.uniq L), 0)) := Lib.hid (by
      unfold Ids.setOf
      rw [HS.out, hm]
      rfl)
    rw [hm] at hc4 hown4 ⊢
    clear hm hu hown3 hown2 h1
    by_cases h4 : 4 < m
    · go_wp2_with fail
      go_ret2
      exact ⟨none, 0, 0, by rw [hset.out, if_pos h4]; rfl, by omega, by rw [hset.out, if_pos h4]; exact World.ownsRow_nil _ _ _ _, hB⟩
    · go_wp2_with fail
      go_ret2
      exact ⟨A4, m, c4, by rw [hset.out, if_neg h4]; rfl, hc4, by rw [hset.out, if_neg h4]; exact hown4, hB⟩
/-- slices.Contains. -/
theorem contains_any (A : Option Addr) (n c : Nat) (L : List (List UInt8)) (x : List UInt8) (w : World) (h : Ts w A n L) (hn : n ≤ 9223372036854775807) :
    Calls Tryd.prog 48 #[.slice A n c, .string (str x)] w fun e w' => e = .returned (.bool (L.contains x)) ∧ w' = w := by
  have hl := h.len
  by_cases h0 : n = 0
  · subst h0
    obtain rfl := List.eq_nil_of_length_eq_zero hl
    exact Tryd.slices_Contains_string_empty A c (str x) w
  · obtain ⟨b, off, rfl, hb, hc⟩ := cells_of_ts h (by omega)
    refine (Tryd.slices_Contains_string b off n c (L.map str) (str x) w (by rw [List.length_map]; omega) hn (fun j hj => ?_)).mono ?_
    · have hj' : j < L.length := by simpa using hj
      rw [hc j hj']
      congr 2
      rw [List.getD_eq_getElem?_getD, List.getElem?_map, List.getElem?_eq_getElem hj']
      rfl
    · rintro e w' ⟨rfl, rfl⟩
      refine ⟨?_, rfl⟩
      congr 2
      rw [List.take_of_length_le (by rw [List.length_map]; omega), Bool.eq_iff_iff, containsS_iff, List.contains_iff_mem]
      constructor
      · intro hm
        obtain ⟨y, hy, e⟩ := List.mem_map.1 hm
        rw [← str_inj e]
        exact hy
      · intro hm
        exact List.mem_map.2 ⟨x, hm, rfl⟩
theorem within1_any (bx : Nat) (A : Option Addr) (n c : Nat) (M : List (List UInt8)) (x : List UInt8) (w : World) (hbox : w.cell? ⟨bx, 0, none⟩ = some (.slice A n c)) (h : Ts w A n M) (hn : n ≤ 9223372036854775807) :
    Calls Tryd.prog 47 #[.string (str x), .pointer (some ⟨bx, 0, none⟩)] w fun e w' => e = .returned (.bool (!M.contains x)) ∧ ∃ q, w' = w.drewN q := by
  have hc := contains_any A n c M x w h hn
  generalize M.contains x = b at *
  go_enter Tryd.func47, Tryd.ntmps47
  go_wp2_with fail
  refine hc.mono ?_
  rintro e w1 ⟨rfl, rfl⟩
  go_wp2
  go_ret
  exact ⟨rfl, 0, rfl⟩
set_option maxRecDepth 100000 in
theorem within_any (A : Option Addr) (n c : Nat) (L : List (List UInt8)) (A' : Option Addr) (n' c' : Nat) (M : List (List UInt8)) (w : World) (h : Ts w A n L) (h' : Ts w A' n' M) (hn : n ≤ 9223372036854775807) (hn' : n' ≤ 9223372036854775807) (hlen : ∀ x ∈ L, x.length ≤ 9223372036854775807) :
    Calls Tryd.prog 26 #[.slice A n c, .slice A' n' c'] w fun e w' => e = .returned (.bool (withinOf L M)) ∧ Below w.heap.size w w' := by
  obtain ⟨w1, hw1⟩ : ∃ w1, w.alloc (.cells #[.slice A' n' c'] 30) = w1 := ⟨_, rfl⟩
  have hb1 : Below w.heap.size w w1 := by rw [← hw1]; exact (Below.refl _ _).alloc (Nat.le_refl _) _
  have hbox : w1.cell? ⟨w.heap.size, 0, none⟩ = some (.slice A' n' c') := by rw [← hw1]; exact World.cell?_alloc_at _ _ _ 0 rfl
  have hlt : w.heap.size < w1.heap.size := by rw [← hw1]; simp
  have h1 : Ts w1 A n L := h.below hb1
  have h1' : Ts w1 A' n' M := h'.below hb1
  have hall := func_any 47 #[.pointer (some ⟨w.heap.size, 0, none⟩)] (enters_of Tryd.func47 (by kernel_rfl) rfl) (fun x => !M.contains x) A n c L w1 h1 hn hlen
    (fun W x _ hW => within1_any w.heap.size A' n' c' M x W ((hW.cell (p := ⟨w.heap.size, 0, none⟩) hlt).trans hbox) (h1'.below hW) hn')
  rw [any_not] at hall
  have e1 : L.all (fun x => M.contains x) = withinOf L M := rfl
  rw [e1] at hall
  generalize withinOf L M = b at *
  clear h h' h1 h1' hbox
  go_enter Tryd.func26, Tryd.ntmps26
  go_wp2_with fail
  try rw [hw1]
  refine hall.mono ?_
  rintro e w2 ⟨rfl, q, rfl⟩
  go_wp2
  go_ret
  exact ⟨by simp, hb1.trans (below_drewM _ _ _)⟩
end Go.Proofs.YtjndogfbhhbfcaaDoor
