/- THE WALK of Encode. -/
import Derived.Test.YtmbpnkacggngkaaGreatDoorLedOpW
namespace Go.Proofs.YtmbpnkacggngkaaGreatDoor
open Go.RowKit Mem Led

/-- New bytes. -/
def NewBytes (w : World) (l : Txt) (e : Ending) (w' : World) : Prop := ∃ v, e = .returned v ∧ w'.ownsRow w.heap.size 5 1 v l.length (bv l) ∧ Below w.heap.size w w'
set_option maxRecDepth 100000 in
set_option maxHeartbeats 4000000 in
theorem encode_any (o : Led.Op) (ho : o.Ok) (K : Nat) (hK : o.kind = K) (hKm : K ≤ 9223372036854775807) (As : Option Addr) (ns cc : Nat) (Ak : Option Addr) (nk ck : Nat) (w : World)
    (hs : Vs w w.heap.size 1 As ns (o.entry.sels.map tx)) (hk : Vs w w.heap.size 2 Ak nk (jv o.bundle.keys)) (hcS : ns ≤ cc) (hcK : nk ≤ ck) :
    Calls Tryz.prog 19 #[.agg (opCells o (.slice As ns cc) (.slice Ak nk ck)).toArray] w (NewBytes w (enc o)) := by
  have hand := and_many K hKm
  obtain ⟨o', ho'⟩ : ∃ o' : Led.Op, { o with kind := (K : Int) % 256 } = o' := ⟨_, rfl⟩
  have hoe : enc o' = enc o := by
    rw [← ho']
    unfold enc
    simp only []
    rw [hK]
    congr 1
    congr 1
    omega
  have ho2 : o'.Ok := by rw [← ho']; exact ⟨ho.1, ho.2, ho.3, ho.4, ho.5, ho.6, ho.7, ho.8, ho.9, ho.10, ho.11, ho.12, ho.13, ho.14, ho.15⟩
  have hb1 : Blk (w.alloc (.cells (opCells o' (.slice As ns cc) (.slice Ak nk ck)).toArray 47)) w.heap.size (opCells o' (.slice As ns cc) (.slice Ak nk ck)) 47 := Blk.new _ _ _
  obtain ⟨W, hW⟩ : ∃ W, (w.alloc (.cells (opCells o' (.slice As ns cc) (.slice Ak nk ck)).toArray 47)).alloc (.cells #[.slice none 0 0, .bool false, .bool false] 86) = W := ⟨_, rfl⟩
  have hbW : Below w.heap.size w W := by rw [← hW]; exact ((Below.refl _ _).alloc (Nat.le_refl _) _).alloc (by simp) _
  have hzW : W.heap.size = w.heap.size + 2 := by rw [← hW]; simp
  have hc : Blk W (w.heap.size + 1) [.slice none 0 0, .bool false, .bool false] 86 := by
    have := Blk.new (w.alloc (.cells (opCells o' (.slice As ns cc) (.slice Ak nk ck)).toArray 47)) [.slice none 0 0, .bool false, .bool false] 86
    rw [← hW]
    simpa using this
  have hg : Blk W w.heap.size (opCells o' (.slice As ns cc) (.slice Ak nk ck)) 47 := by rw [← hW]; exact hb1.alloc _
  have hst : WSt (w.heap.size + 1) [w.heap.size + 1, w.heap.size] [(w.heap.size, opCells o' (.slice As ns cc) (.slice Ak nk ck), 47)] W W [] :=
    ⟨.slice none 0 0, ⟨World.ownsRow_nil _ _ _ _, hc, by omega, Nat.le_refl _⟩, fun p hp => by
      simp at hp
      subst hp
      exact ⟨hg, by simp [Value.ownBlock], by simp⟩, Chg.refl _ _⟩
  have hop := opw_any o' ho2 As ns cc Ak nk ck w.heap.size (w.heap.size + 1) w.heap.size 47 (by omega) hst (by rw [← ho']; exact Vs.below hs hbW) (by rw [← ho']; exact Vs.below hk hbW) (by omega) (Nat.le_refl _) hcS hcK
  rw [hoe] at hop
  unfold opCells at hW
  simp only [← ho'] at hW
  have HW := Lib.hid hW
  have hlen : (W.heap.size = w.heap.size + 2) := hzW
  clear hW hb1 hc hg hst hs hk hoe hzW
  unfold opCells
  rw [hK]
  simp only [nm, tx] at HW ⊢
  go_enter Tryz.func19, Tryz.ntmps19
  go_wp2_with fail
  rw [HW.out]
  refine hop.mono ?_
  rintro e w1 ⟨rfl, v, h1, h2⟩
  have k0 : w1.cell? ⟨w.heap.size + 1, 0, none⟩ = some v := h1.blk.cell 0
  have hz1 := h2.size
  clear HW hop
  go_wp2
  go_ret
  exact ⟨v, rfl, own_base h1.own (by omega), (hbW.trans (h2.below' (B := w.heap.size) (by omega) (by simp)))⟩
end Go.Proofs.YtmbpnkacggngkaaGreatDoor
