/- THE WALKS of ids.Agent, ids.Parse, ids.Make. -/
import Derived.Test.YtjndogfbhhbfcaaDoorIdsPath
namespace Go.Proofs.YtjndogfbhhbfcaaDoor
open Go.RowKit Mem

set_option maxRecDepth 100000 in
theorem agent_any (l : List UInt8) (w : World) (hl : l.length ≤ 9223372036854775807) : Calls Tryd.prog 22 #[.string (str l)] w fun e w' => e = .returned (.bool (Ids.agent l)) ∧ Below w.heap.size w w' := by
  have hpre := pre_any Ids.agentPre l w
  have hp := path_any l w hl
  have hc := fun w1 => has_any (l.drop Ids.agentPre.length) w1
  unfold Ids.agent
  rw [show l.drop 7 = l.drop Ids.agentPre.length from rfl]
  generalize l.drop Ids.agentPre.length = V at *
  generalize Ids.path l = b at *
  generalize V.contains 47 = c at *
  cases ha : Ids.agentPre.isPrefixOf l
  · rw [ha] at hpre
    go_enter Tryd.func22, Tryd.ntmps22
    go_wp2_with fail
    refine hpre.mono ?_
    rintro e w' ⟨rfl, rfl⟩
    go_wp2
    go_ret
    exact ⟨by simp, Below.refl _ _⟩
  · rw [ha] at hpre
    cases b
    · go_enter Tryd.func22, Tryd.ntmps22
      go_wp2_with fail
      refine hpre.mono ?_
      rintro e w' ⟨rfl, rfl⟩
      go_wp2_with fail
      refine hp.mono ?_
      rintro e w1 ⟨rfl, hb⟩
      go_wp2
      go_ret
      exact ⟨by simp, hb⟩
    · go_enter Tryd.func22, Tryd.ntmps22
      go_wp2_with fail
      refine hpre.mono ?_
      rintro e w' ⟨rfl, rfl⟩
      go_wp2_with fail
      refine hp.mono ?_
      rintro e w1 ⟨rfl, hb⟩
      go_wp2_with fail
      refine (hc _).mono ?_
      rintro e w' ⟨rfl, rfl⟩
      go_wp2
      go_ret
      exact ⟨by simp, hb⟩
theorem domain_len {l : List UInt8} (h : Ids.domain l = true) : 1 ≤ l.length ∧ l.length ≤ 16 := by
  unfold Ids.domain Ids.allOf at h
  rw [Ids.isEmpty_len] at h
  simp only [Bool.and_eq_true, decide_eq_true_eq] at h
  exact ⟨h.1.2.2, h.1.1⟩
theorem path_len {l : List UInt8} (h : Ids.path l = true) : 2 ≤ l.length ∧ l.length ≤ 40 := by
  by_cases h2 : l.length < 2
  · rw [path_short h2] at h; cases h
  · rw [path_drop rfl (by omega)] at h
    simp only [Bool.and_eq_true, decide_eq_true_eq] at h
    exact ⟨by omega, h.1.1⟩
theorem str_app (a b : List UInt8) : str a ++ str b = str (a ++ b) := by
  apply ByteArray.ext
  simp [str]
/-- What Make tells. -/
def MakeOut (d p : List UInt8) : Array Value := if Ids.domain d && Ids.path p then #[.string (str (Ids.scheme ++ d ++ p)), .int .i64 0] else #[.string (str []), .int .i64 13]
set_option maxRecDepth 100000 in
theorem make_any (d p : List UInt8) (w : World) (hd : d.length ≤ 9223372036854775807) (hp : p.length ≤ 9223372036854775807) : Calls Tryd.prog 17 #[.string (str d), .string (str p)] w fun e w' => e = .returned (.tuple (MakeOut d p)) ∧ Below w.heap.size w w' := by
  have h1 := domain_any d w (by omega)
  have h2 := fun w1 => path_any p w1 hp
  have e1 : (⟨#[115, 112, 105, 102, 102, 101, 58, 47, 47]⟩ : ByteArray) ++ str d = str (Ids.scheme ++ d) := str_app Ids.scheme d
  have e2 := str_app (Ids.scheme ++ d) p
  have hzz : Hid (Ids.domain d = true → Ids.path p = true → ¬ 9223372036854775807 < 9 + (str d).size ∧ ¬ 9223372036854775807 < (str (Ids.scheme ++ d)).size + (str p).size) := Lib.hid (fun h1 h2 => by
    have g1 := domain_len h1
    have g2 := path_len h2
    rw [str_size, str_size, str_size, List.length_append, show Ids.scheme.length = 9 from rfl]
    omega)
  unfold MakeOut
  generalize Ids.scheme ++ d = X at *
  generalize X ++ p = Y at *
  generalize Ids.domain d = a at *
  generalize Ids.path p = b at *
  cases a
  · go_enter Tryd.func17, Tryd.ntmps17
    go_wp2_with fail
    refine h1.mono ?_
    rintro e w1 ⟨rfl, hb⟩
    go_wp2
    go_ret2
    exact ⟨rfl, hb⟩
  · cases b
    · go_enter Tryd.func17, Tryd.ntmps17
      go_wp2_with fail
      refine h1.mono ?_
      rintro e w1 ⟨rfl, hb⟩
      go_wp2_with fail
      refine (h2 _).mono ?_
      rintro e w2 ⟨rfl, hb2⟩
      go_wp2
      go_ret2
      exact ⟨rfl, hb.trans (hb2.mono hb.size)⟩
    · obtain ⟨hz1, hz2⟩ := hzz.out rfl rfl
      go_enter Tryd.func17, Tryd.ntmps17
      go_wp2_with fail
      refine h1.mono ?_
      rintro e w1 ⟨rfl, hb⟩
      go_wp2_with fail
      refine (h2 _).mono ?_
      rintro e w2 ⟨rfl, hb2⟩
      go_wp2
      go_ret2
      exact ⟨rfl, hb.trans (hb2.mono hb.size)⟩
/-- What Parse tells. -/
def IdOut (l : List UInt8) : Array Value := match Ids.parse l with
  | none => #[.string (str []), .string (str []), .int .i64 13]
  | some (d, p) => #[.string (str d), .string (str p), .int .i64 0]
set_option maxRecDepth 100000 in
set_option maxHeartbeats 1000000 in
theorem parse_any (l : List UInt8) (w : World) (hl : l.length ≤ 9223372036854775807) : Calls Tryd.prog 11 #[.string (str l)] w fun e w' => e = .returned (.tuple (IdOut l)) ∧ Below w.heap.size w w' := by
  have hpre := pre_any Ids.scheme l w
  obtain ⟨r, hr0⟩ : ∃ r, IdOut l = r := ⟨_, rfl⟩
  have HR := Lib.hid hr0
  rw [hr0]
  clear hr0
  cases ha : Ids.scheme.isPrefixOf l
  · have hx : Hid (IdOut l = #[.string (str []), .string (str []), .int .i64 13]) := Lib.hid (by unfold IdOut Ids.parse; rw [ha]; rfl)
    have hix := fun w1 => Tryd.strings_IndexByte (str l) 47 w1
    rw [ha] at hpre
    clear ha
    go_enter Tryd.func11, Tryd.ntmps11
    go_wp2_with fail
    refine hpre.mono ?_
    rintro e w' ⟨rfl, rfl⟩
    go_wp2_with fail
    refine (hix _).mono ?_
    rintro e w' ⟨rfl, rfl⟩
    go_wp2
    go_ret3
    exact ⟨by rw [← HR.out, hx.out]; rfl, Below.refl _ _⟩
  · rw [ha] at hpre
    have hpa : Ids.parse l = if Ids.domain ((l.drop 9).take (Ids.till 47 (l.drop 9))) && Ids.path ((l.drop 9).drop (Ids.till 47 (l.drop 9))) then some ((l.drop 9).take (Ids.till 47 (l.drop 9)), (l.drop 9).drop (Ids.till 47 (l.drop 9))) else none := by
      unfold Ids.parse
      rw [ha, Bool.true_and]
    rw [show Ids.scheme.length = 9 from rfl] at hpre
    have hVl : (l.drop 9).length ≤ 9223372036854775807 := by rw [List.length_drop]; omega
    generalize l.drop 9 = V at *
    have hix := Tryd.strings_IndexByte (str V) 47 w
    rw [show (str V).data.toList = V from rfl, show ((47 : Int).toNat.toUInt8) = 47 from rfl, Ids.indexByte_till] at hix
    obtain ⟨M, hM⟩ : ∃ M, V.length = M := ⟨_, rfl⟩
    have hsz : (str V).size = M := by rw [str_size, hM]
    have hk := Ids.till_le 47 V
    by_cases h : Ids.till 47 V < V.length
    · rw [if_pos h] at hix
      rw [hM] at h hk hVl
      obtain ⟨k, hkk⟩ : ∃ k, Ids.till 47 V = k := ⟨_, rfl⟩
      rw [hkk] at h hk hix hpa
      have hx1 : (str V).extract 0 k = str (V.take k) := sub_str V 0 k
      have hx2 : (str V).extract k M = str (V.drop k) := by rw [sub_str, List.take_of_length_le (by omega)]
      have hd := domain_any (V.take k) w (by rw [List.length_take]; omega)
      have hpt := fun w1 => path_any (V.drop k) w1 (by rw [List.length_drop]; omega)
      generalize V.take k = D at *
      generalize V.drop k = P at *
      have HPA := Lib.hid hpa
      obtain ⟨a, ha2⟩ : ∃ a, Ids.domain D = a := ⟨_, rfl⟩
      obtain ⟨b, hb2⟩ : ∃ b, Ids.path P = b := ⟨_, rfl⟩
      rw [ha2] at hd
      simp only [hb2] at hpt
      have hx : Hid (IdOut l = if a && b then #[.string (str D), .string (str P), .int .i64 0] else #[.string (str []), .string (str []), .int .i64 13]) := Lib.hid (by
        unfold IdOut
        rw [HPA.out, ha2, hb2]
        cases a <;> cases b <;> rfl)
      clear hpa ha2 hb2 ha hkk hM HPA
      cases a
      · go_enter Tryd.func11, Tryd.ntmps11
        go_wp2_with fail
        refine hpre.mono ?_
        rintro e w' ⟨rfl, rfl⟩
        go_wp2_with fail
        refine hix.mono ?_
        rintro e w' ⟨rfl, rfl⟩
        go_wp2_with fail
        refine hd.mono ?_
        rintro e w1 ⟨rfl, hb1⟩
        go_wp2
        go_ret3
        exact ⟨by rw [← HR.out, hx.out]; rfl, hb1⟩
      · cases b
        · go_enter Tryd.func11, Tryd.ntmps11
          go_wp2_with fail
          refine hpre.mono ?_
          rintro e w' ⟨rfl, rfl⟩
          go_wp2_with fail
          refine hix.mono ?_
          rintro e w' ⟨rfl, rfl⟩
          go_wp2_with fail
          refine hd.mono ?_
          rintro e w1 ⟨rfl, hb1⟩
          go_wp2_with fail
          refine (hpt _).mono ?_
          rintro e w2 ⟨rfl, hb2⟩
          go_wp2
          go_ret3
          exact ⟨by rw [← HR.out, hx.out]; rfl, hb1.trans (hb2.mono hb1.size)⟩
        · go_enter Tryd.func11, Tryd.ntmps11
          go_wp2_with fail
          refine hpre.mono ?_
          rintro e w' ⟨rfl, rfl⟩
          go_wp2_with fail
          refine hix.mono ?_
          rintro e w' ⟨rfl, rfl⟩
          go_wp2_with fail
          refine hd.mono ?_
          rintro e w1 ⟨rfl, hb1⟩
          go_wp2_with fail
          refine (hpt _).mono ?_
          rintro e w2 ⟨rfl, hb2⟩
          go_wp2_with fail
          go_quiet (fail)
          go_wp2
          go_ret3
          exact ⟨by rw [← HR.out, hx.out]; rfl, (hb1.trans (hb2.mono hb1.size)).trans (below_drewM _ _ _)⟩
    · rw [if_neg h] at hix
      have hx : Hid (IdOut l = #[.string (str []), .string (str []), .int .i64 13]) := Lib.hid (by
        unfold IdOut
        rw [hpa, show V.drop (Ids.till 47 V) = [] from List.drop_of_length_le (by omega), show Ids.path [] = false from rfl, Bool.and_false]
        rfl)
      clear hpa ha
      go_enter Tryd.func11, Tryd.ntmps11
      go_wp2_with fail
      refine hpre.mono ?_
      rintro e w' ⟨rfl, rfl⟩
      go_wp2_with fail
      refine hix.mono ?_
      rintro e w' ⟨rfl, rfl⟩
      go_wp2
      go_ret3
      exact ⟨by rw [← HR.out, hx.out]; rfl, Below.refl _ _⟩
end Go.Proofs.YtjndogfbhhbfcaaDoor
