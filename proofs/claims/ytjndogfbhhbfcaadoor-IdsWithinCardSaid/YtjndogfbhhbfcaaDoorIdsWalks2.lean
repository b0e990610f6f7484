/- THE WALKS of IdsRound, IdsAgents, IdsSets, IdsWithin. -/
import Derived.Test.YtjndogfbhhbfcaaDoorIdsWalks
namespace Go.Proofs.YtjndogfbhhbfcaaDoor
open Go.RowKit Mem

theorem parse_made {D P : List UInt8} (hD : Ids.domain D = true) (hP : Ids.path P = true) : Ids.parse (Ids.scheme ++ D ++ P) = some (D, P) := by
  obtain ⟨t, rfl⟩ : ∃ t, P = 47 :: t := by
    cases P with
    | nil => cases hP
    | cons c t =>
      rw [path_cons] at hP
      simp only [Bool.and_eq_true, beq_iff_eq] at hP
      exact ⟨t, by rw [hP.1.2]⟩
  have hn : 47 ∉ D := by
    intro hm
    unfold Ids.domain Ids.allOf at hD
    simp only [Bool.and_eq_true] at hD
    have := List.all_eq_true.1 hD.1.2.1 47 hm
    exact absurd this (by decide)
  have h9 : (Ids.scheme ++ D ++ 47 :: t).drop 9 = D ++ 47 :: t := by
    rw [List.append_assoc]
    exact List.drop_left' rfl
  have hpre : Ids.scheme.isPrefixOf (Ids.scheme ++ D ++ 47 :: t) = true := by
    rw [List.isPrefixOf_iff_prefix, List.append_assoc]
    exact List.prefix_append _ _
  unfold Ids.parse
  rw [hpre, h9, Ids.till_append hn, List.take_left' rfl, List.drop_left' rfl, hD, hP]
  rfl

set_option maxRecDepth 100000 in
set_option maxHeartbeats 4000000 in
theorem idsRound_walk (l l' : List UInt8) (w : World) (hl : l.length ≤ 9223372036854775807) (hl' : l'.length ≤ 9223372036854775807) : Calls Tryd.prog 6 #[.string (str l), .string (str l')] w fun e w' => e = .returned (.bool true) ∧ Below w.heap.size w w' := by
  have hf := few_any l w hl
  have hf' := few_any l' w hl'
  have hDl : (l.take 80).length ≤ 80 := by rw [List.length_take]; omega
  have hPl : (l'.take 80).length ≤ 80 := by rw [List.length_take]; omega
  generalize l.take 80 = D at *
  generalize l'.take 80 = P at *
  have hm := make_any D P w (by omega) (by omega)
  have h1 := fun w1 => rdomain_any D w1 (by omega)
  have h2 := fun w1 => rpath_any P w1 (by omega)
  have hpm := @parse_made D P
  have e1 : (⟨#[115, 112, 105, 102, 102, 101, 58, 47, 47]⟩ : ByteArray) ++ str D = str (Ids.scheme ++ D) := str_app Ids.scheme D
  have e2 := str_app (Ids.scheme ++ D) P
  have hz1 : ¬ 9223372036854775807 < 9 + (str D).size := by rw [str_size]; omega
  have hz2 : ¬ 9223372036854775807 < (str (Ids.scheme ++ D)).size + (str P).size := by
    rw [str_size, str_size, List.length_append, show Ids.scheme.length = 9 from rfl]
    omega
  have hp := fun w1 => parse_any (Ids.scheme ++ D ++ P) w1 (by rw [List.length_append, List.length_append, show Ids.scheme.length = 9 from rfl]; omega)
  unfold IdOut at hp
  unfold MakeOut at hm
  generalize Ids.scheme ++ D = X at *
  generalize X ++ P = Y at *
  generalize Ids.domain D = a at *
  generalize Ids.path P = b at *
  have s1 : (D == D) = true := by simp
  have s2 : (P == P) = true := by simp
  have s3 : (Y == Y) = true := by simp
  have hem : decide (str ([] : List UInt8) = ⟨#[]⟩) = true := empty_str []
  have hlv := lives_any
  cases a
  · go_enter Tryd.func6, Tryd.ntmps6
    go_wp2_with fail
    refine hf.mono ?_
    rintro e w' ⟨rfl, rfl⟩
    go_wp2_with fail
    refine hf'.mono ?_
    rintro e w' ⟨rfl, rfl⟩
    go_wp2_with fail
    refine hm.mono ?_
    rintro e w1 ⟨rfl, hb1⟩
    go_wp2_with fail
    refine (h1 _).mono ?_
    rintro e w' ⟨rfl, rfl⟩
    go_wp2_with fail
    refine (h2 _).mono ?_
    rintro e w' ⟨rfl, rfl⟩
    go_wp2_with fail
    refine (hlv _).mono ?_
    rintro e w4 ⟨rfl, hb4⟩
    go_wp2
    go_ret
    exact ⟨rfl, hb1.trans (hb4.mono hb1.size)⟩
  · cases b
    · go_enter Tryd.func6, Tryd.ntmps6
      go_wp2_with fail
      refine hf.mono ?_
      rintro e w' ⟨rfl, rfl⟩
      go_wp2_with fail
      refine hf'.mono ?_
      rintro e w' ⟨rfl, rfl⟩
      go_wp2_with fail
      refine hm.mono ?_
      rintro e w1 ⟨rfl, hb1⟩
      go_wp2_with fail
      refine (h1 _).mono ?_
      rintro e w' ⟨rfl, rfl⟩
      go_wp2_with fail
      refine (h2 _).mono ?_
      rintro e w' ⟨rfl, rfl⟩
      go_wp2_with fail
      refine (hlv _).mono ?_
      rintro e w4 ⟨rfl, hb4⟩
      go_wp2
      go_ret
      exact ⟨rfl, hb1.trans (hb4.mono hb1.size)⟩
    · rw [hpm rfl rfl] at hp
      clear hpm
      go_enter Tryd.func6, Tryd.ntmps6
      go_wp2_with fail
      refine hf.mono ?_
      rintro e w' ⟨rfl, rfl⟩
      go_wp2_with fail
      refine hf'.mono ?_
      rintro e w' ⟨rfl, rfl⟩
      go_wp2_with fail
      refine hm.mono ?_
      rintro e w1 ⟨rfl, hb1⟩
      go_wp2_with fail
      refine (h1 _).mono ?_
      rintro e w' ⟨rfl, rfl⟩
      go_wp2_with fail
      refine (h2 _).mono ?_
      rintro e w' ⟨rfl, rfl⟩
      go_wp2_with fail
      refine (hp _).mono ?_
      rintro e w2 ⟨rfl, hb2⟩
      go_wp2_with fail
      refine (hlv _).mono ?_
      rintro e w4 ⟨rfl, hb4⟩
      go_wp2
      go_ret
      have hB : Below w.heap.size w w2 := hb1.trans (hb2.mono hb1.size)
      exact ⟨rfl, hB.trans (hb4.mono hB.size)⟩

def aOrg : List UInt8 := [97, 46, 111, 114, 103]
theorem made_inj (X S T : List UInt8) : (X ++ S == X ++ T) = (S == T) := by
  rw [Bool.eq_iff_iff]
  simp
set_option maxRecDepth 100000 in
set_option maxHeartbeats 4000000 in
theorem idsAgents_walk (l l' : List UInt8) (w : World) (hl : l.length ≤ 9223372036854775807) (hl' : l'.length ≤ 9223372036854775807) : Calls Tryd.prog 8 #[.string (str l), .string (str l')] w fun e w' => e = .returned (.bool true) ∧ Below w.heap.size w w' := by
  have hf := few_any l w hl
  have hf' := few_any l' w hl'
  have hDl : (l.take 80).length ≤ 80 := by rw [List.length_take]; omega
  have hPl : (l'.take 80).length ≤ 80 := by rw [List.length_take]; omega
  generalize l.take 80 = S at *
  generalize l'.take 80 = T at *
  have hag := agent_any S w (by omega)
  have hpa := fun w1 => path_any S w1 (by omega)
  have hm1 := fun w1 => make_any aOrg S w1 (by decide) (by omega)
  have hm2 := fun w1 => make_any aOrg T w1 (by decide) (by omega)
  have hap : Ids.agent S = true → Ids.path S = true := by
    unfold Ids.agent
    simp only [Bool.and_eq_true]
    exact fun h => h.1.2
  have hda : Ids.domain aOrg = true := by decide +kernel
  unfold MakeOut at hm1 hm2
  rw [hda] at hm1 hm2
  have hinj := made_inj (Ids.scheme ++ aOrg) S T
  have s3 : (((S == T) : Bool) == (S == T)) = true := by simp
  generalize Ids.scheme ++ aOrg ++ S = Y at *
  generalize Ids.scheme ++ aOrg ++ T = Z at *
  have hlv := lives_any
  generalize Ids.agent S = a at *
  generalize Ids.path S = b at *
  generalize Ids.path T = c at *
  cases a
  · clear hap
    cases b <;> cases c
    · go_enter Tryd.func8, Tryd.ntmps8
      go_wp2_with fail
      refine hf.mono ?_
      rintro e w' ⟨rfl, rfl⟩
      go_wp2_with fail
      refine hf'.mono ?_
      rintro e w' ⟨rfl, rfl⟩
      go_wp2_with fail
      refine hag.mono ?_
      rintro e w1 ⟨rfl, hb1⟩
      have hb2 := hb1
      go_wp2_with fail
      refine (hm1 _).mono ?_
      rintro e w3 ⟨rfl, hb3⟩
      go_wp2_with fail
      refine (hm2 _).mono ?_
      rintro e w4 ⟨rfl, hb4⟩
      have hB3 := hb2.trans (hb3.mono hb2.size)
      have hB4 := hB3.trans (hb4.mono hB3.size)
      go_wp2_with fail
      refine (hlv _).mono ?_
      rintro e w5 ⟨rfl, hb5⟩
      go_wp2
      go_ret
      exact ⟨rfl, hB4.trans (hb5.mono hB4.size)⟩
    · go_enter Tryd.func8, Tryd.ntmps8
      go_wp2_with fail
      refine hf.mono ?_
      rintro e w' ⟨rfl, rfl⟩
      go_wp2_with fail
      refine hf'.mono ?_
      rintro e w' ⟨rfl, rfl⟩
      go_wp2_with fail
      refine hag.mono ?_
      rintro e w1 ⟨rfl, hb1⟩
      have hb2 := hb1
      go_wp2_with fail
      refine (hm1 _).mono ?_
      rintro e w3 ⟨rfl, hb3⟩
      go_wp2_with fail
      refine (hm2 _).mono ?_
      rintro e w4 ⟨rfl, hb4⟩
      have hB3 := hb2.trans (hb3.mono hb2.size)
      have hB4 := hB3.trans (hb4.mono hB3.size)
      go_wp2_with fail
      refine (hlv _).mono ?_
      rintro e w5 ⟨rfl, hb5⟩
      go_wp2
      go_ret
      exact ⟨rfl, hB4.trans (hb5.mono hB4.size)⟩
    · go_enter Tryd.func8, Tryd.ntmps8
      go_wp2_with fail
      refine hf.mono ?_
      rintro e w' ⟨rfl, rfl⟩
      go_wp2_with fail
      refine hf'.mono ?_
      rintro e w' ⟨rfl, rfl⟩
      go_wp2_with fail
      refine hag.mono ?_
      rintro e w1 ⟨rfl, hb1⟩
      have hb2 := hb1
      go_wp2_with fail
      refine (hm1 _).mono ?_
      rintro e w3 ⟨rfl, hb3⟩
      go_wp2_with fail
      refine (hm2 _).mono ?_
      rintro e w4 ⟨rfl, hb4⟩
      have hB3 := hb2.trans (hb3.mono hb2.size)
      have hB4 := hB3.trans (hb4.mono hB3.size)
      go_wp2_with fail
      refine (hlv _).mono ?_
      rintro e w5 ⟨rfl, hb5⟩
      go_wp2
      go_ret
      exact ⟨rfl, hB4.trans (hb5.mono hB4.size)⟩
    · go_enter Tryd.func8, Tryd.ntmps8
      go_wp2_with fail
      refine hf.mono ?_
      rintro e w' ⟨rfl, rfl⟩
      go_wp2_with fail
      refine hf'.mono ?_
      rintro e w' ⟨rfl, rfl⟩
      go_wp2_with fail
      refine hag.mono ?_
      rintro e w1 ⟨rfl, hb1⟩
      have hb2 := hb1
      go_wp2_with fail
      refine (hm1 _).mono ?_
      rintro e w3 ⟨rfl, hb3⟩
      go_wp2_with fail
      refine (hm2 _).mono ?_
      rintro e w4 ⟨rfl, hb4⟩
      have hB3 := hb2.trans (hb3.mono hb2.size)
      have hB4 := hB3.trans (hb4.mono hB3.size)
      go_wp2_with fail
      refine (hlv _).mono ?_
      rintro e w5 ⟨rfl, hb5⟩
      go_wp2
      go_ret
      exact ⟨rfl, hB4.trans (hb5.mono hB4.size)⟩
  · cases b
    · exact absurd (hap rfl) (by simp)
    · clear hap
      cases c
      · go_enter Tryd.func8, Tryd.ntmps8
        go_wp2_with fail
        refine hf.mono ?_
        rintro e w' ⟨rfl, rfl⟩
        go_wp2_with fail
        refine hf'.mono ?_
        rintro e w' ⟨rfl, rfl⟩
        go_wp2_with fail
        refine hag.mono ?_
        rintro e w1 ⟨rfl, hb1⟩
        go_wp2_with fail
        refine (hpa _).mono ?_
        rintro e w2 ⟨rfl, hb2'⟩
        have hb2 : Below w.heap.size w w2 := hb1.trans (hb2'.mono hb1.size)
        go_wp2_with fail
        refine (hm1 _).mono ?_
        rintro e w3 ⟨rfl, hb3⟩
        go_wp2_with fail
        refine (hm2 _).mono ?_
        rintro e w4 ⟨rfl, hb4⟩
        have hB3 := hb2.trans (hb3.mono hb2.size)
        have hB4 := hB3.trans (hb4.mono hB3.size)
        go_wp2_with fail
        refine (hlv _).mono ?_
        rintro e w5 ⟨rfl, hb5⟩
        go_wp2
        go_ret
        exact ⟨rfl, hB4.trans (hb5.mono hB4.size)⟩
      · go_enter Tryd.func8, Tryd.ntmps8
        go_wp2_with fail
        refine hf.mono ?_
        rintro e w' ⟨rfl, rfl⟩
        go_wp2_with fail
        refine hf'.mono ?_
        rintro e w' ⟨rfl, rfl⟩
        go_wp2_with fail
        refine hag.mono ?_
        rintro e w1 ⟨rfl, hb1⟩
        go_wp2_with fail
        refine (hpa _).mono ?_
        rintro e w2 ⟨rfl, hb2'⟩
        have hb2 : Below w.heap.size w w2 := hb1.trans (hb2'.mono hb1.size)
        go_wp2_with fail
        refine (hm1 _).mono ?_
        rintro e w3 ⟨rfl, hb3⟩
        go_wp2_with fail
        refine (hm2 _).mono ?_
        rintro e w4 ⟨rfl, hb4⟩
        have hB3 := hb2.trans (hb3.mono hb2.size)
        have hB4 := hB3.trans (hb4.mono hB3.size)
        go_wp2_with fail
        refine (hlv _).mono ?_
        rintro e w5 ⟨rfl, hb5⟩
        go_wp2
        go_ret
        exact ⟨rfl, hB4.trans (hb5.mono hB4.size)⟩
end Go.Proofs.YtjndogfbhhbfcaaDoor
