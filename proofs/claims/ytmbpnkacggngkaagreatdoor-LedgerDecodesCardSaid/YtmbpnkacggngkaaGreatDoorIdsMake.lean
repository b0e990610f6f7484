/- THE WALKS of ids.Agent, ids.Parse, ids.Make. -/
import Derived.Test.YtmbpnkacggngkaaGreatDoorIdsPath
namespace Go.Proofs.YtmbpnkacggngkaaGreatDoor
open Go.RowKit Mem

set_option maxRecDepth 100000 in
theorem agent_any (l : List UInt8) (w : World) (hl : l.length ≤ 9223372036854775807) : Calls Tryz.prog 94 #[.string (str l)] w fun e w' => e = .returned (.bool (Ids.agent l)) ∧ Below w.heap.size w w' := by
  have hpre := pre_any Ids.agentPre l w
  have hp := path_any l w hl
  have hc := fun w1 => has_any (l.drop Ids.agentPre.length) w1
  unfold Ids.agent
  rw [show l.drop 7 = l.drop Ids.agentPre.length from rfl]
  generalize l.drop Ids.agentPre.length = V at *
  generalize Ids.path l = b at *
  generalize V.contains 47 = c at *
  cases ha : Ids.agentPre.isPrefixOf l
  · rw [ha] at hpre
    go_enter Tryz.func94, Tryz.ntmps94
    go_wp2_with fail
    refine hpre.mono ?_
    rintro e w' ⟨rfl, rfl⟩
    go_wp2
    go_ret
    exact ⟨by simp, Below.refl _ _⟩
  · rw [ha] at hpre
    cases b
    · go_enter Tryz.func94, Tryz.ntmps94
      go_wp2_with fail
      refine hpre.mono ?_
      rintro e w' ⟨rfl, rfl⟩
      go_wp2_with fail
      refine hp.mono ?_
      rintro e w1 ⟨rfl, hb⟩
      go_wp2
      go_ret
      exact ⟨by simp, hb⟩
    · go_enter Tryz.func94, Tryz.ntmps94
      go_wp2_with fail
      refine hpre.mono ?_
      rintro e w' ⟨rfl, rfl⟩
      go_wp2_with fail
      refine hp.mono ?_
      rintro e w1 ⟨rfl, hb⟩
      go_wp2_with fail
      refine (hc _).mono ?_
      rintro e w' ⟨rfl, rfl⟩
      go_wp2
      go_ret
      exact ⟨by simp, hb⟩
theorem domain_len {l : List UInt8} (h : Ids.domain l = true) : 1 ≤ l.length ∧ l.length ≤ 16 := by
  unfold Ids.domain Ids.allOf at h
  rw [Ids.isEmpty_len] at h
  simp only [Bool.and_eq_true, decide_eq_true_eq] at h
  exact ⟨h.1.2.2, h.1.1⟩
theorem path_len {l : List UInt8} (h : Ids.path l = true) : 2 ≤ l.length ∧ l.length ≤ 40 := by
  by_cases h2 : l.length < 2
  · rw [path_short h2] at h; cases h
  · rw [path_drop rfl (by omega)] at h
    simp only [Bool.and_eq_true, decide_eq_true_eq] at h
    exact ⟨by omega, h.1.1⟩
theorem str_app (a b : List UInt8) : str a ++ str b = str (a ++ b) := by
  apply ByteArray.ext
  simp [str]
end Go.Proofs.YtmbpnkacggngkaaGreatDoor
