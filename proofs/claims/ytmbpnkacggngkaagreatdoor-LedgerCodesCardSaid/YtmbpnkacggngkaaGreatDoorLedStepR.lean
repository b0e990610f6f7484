/- THE STEPS of an operation that is read. -/
import Derived.Test.YtmbpnkacggngkaaGreatDoorLedListR
namespace Go.Proofs.YtmbpnkacggngkaaGreatDoor
open Go.RowKit Mem Led

section
variable {w : World} {B gc : Nat} {s : St} {cs : List Value} {t : TypeId}
theorem Rd.drew (h : Rd w B gc s) : Rd w.drew B gc s := h.chg (S := []) (Chg.refl _ _).drew (by simp) (by simp)
/-- What a step of reading leaves, of one block. -/
def Step (B gc g : Nat) (cs : List Value) (t : TypeId) (s' : St) (w w' : World) : Prop := Rd w' B gc s' ∧ Blk w' g cs t ∧ Chg [gc, g] w w'
theorem chg_less {S S' : List Nat} {w w' : World} (h : Chg S w w') (hS : ∀ s, s ∈ S → s < w.heap.size → s ∈ S') : Chg S' w w' :=
  ⟨h.os, h.tape, h.output, h.size, fun i hi hn => h.block i hi fun hm => hn (hS i hm hi)⟩
theorem rnum1_step (g k : Nat) (h : Rd w B gc s) (hb : Blk w g cs t) (hk : k < cs.length) (hg : g ≠ gc) (hB : B ≤ g) (hl : s.1.length ≤ 140737488355328) :
    Calls Tryz.prog 66 #[.pointer (some ⟨gc, 0, none⟩), .slice (some ⟨w.heap.size, 0, none⟩) 1 1] (w.alloc (.cells (ptrs [(g, k)]).toArray 100)) fun e w' => e = .returned (.tuple #[]) ∧ Step B gc g (cs.set k (.int .i64 (rnum 8 s).1)) t (rnum 8 s).2 w w' := by
  have hlt := hb.lt
  have hgl := h.glt
  have ha : Chg [] w (w.alloc (.cells (ptrs [(g, k)]).toArray 100)) := (Chg.refl _ _).alloc _
  refine (numbersr_any [(g, k)] w.heap.size 1 (h.chg ha (by simp) (by simp)) (Blk.new w _ _) rfl (by omega) (fun j hj => ?_) (by omega) hl).mono fun e w' ⟨he, h1, h2, h3⟩ => ⟨he, ?_⟩
  · match j, hj with
    | 0, _ => exact ⟨hg, hB, by show g ≠ _; omega, cs, t, hb.alloc _, hk⟩
  · refine ⟨h1, ?_, (ha.mono (by simp)).and h3⟩
    have := h2 g cs t hg (hb.alloc _)
    simpa [reach, upd] using this
theorem rnum2_step (g k k' : Nat) (h : Rd w B gc s) (hb : Blk w g cs t) (hk : k < cs.length) (hk' : k' < cs.length) (hg : g ≠ gc) (hB : B ≤ g) (hl : s.1.length ≤ 140737488355328) :
    Calls Tryz.prog 66 #[.pointer (some ⟨gc, 0, none⟩), .slice (some ⟨w.heap.size, 0, none⟩) 2 2] (w.alloc (.cells (ptrs [(g, k), (g, k')]).toArray 100)) fun e w' => e = .returned (.tuple #[]) ∧ Step B gc g ((cs.set k (.int .i64 (rnum 8 s).1)).set k' (.int .i64 (rnum 8 (rnum 8 s).2).1)) t (rnum 8 (rnum 8 s).2).2 w w' := by
  have hlt := hb.lt
  have hgl := h.glt
  have ha : Chg [] w (w.alloc (.cells (ptrs [(g, k), (g, k')]).toArray 100)) := (Chg.refl _ _).alloc _
  refine (numbersr_any [(g, k), (g, k')] w.heap.size 2 (h.chg ha (by simp) (by simp)) (Blk.new w _ _) rfl (by omega) (fun j hj => ?_) (by omega) hl).mono fun e w' ⟨he, h1, h2, h3⟩ => ⟨he, ?_⟩
  · match j, hj with
    | 0, _ => exact ⟨hg, hB, by show g ≠ _; omega, cs, t, hb.alloc _, hk⟩
    | 1, _ => exact ⟨hg, hB, by show g ≠ _; omega, cs, t, hb.alloc _, hk'⟩
  · refine ⟨h1, ?_, (ha.mono (by simp)).and (h3.mono (by simp))⟩
    have := h2 g cs t hg (hb.alloc _)
    simpa [reach, upd] using this
/-- Into two blocks. -/
theorem rnum2b_step (g k g' : Nat) {u : Value} {t' : TypeId} (h : Rd w B gc s) (hb : Blk w g cs t) (hk : k < cs.length) (hb' : Blk w g' [u] t') (hg : g ≠ gc) (hg' : g' ≠ gc) (hgg : g ≠ g') (hB : B ≤ g) (hB' : B ≤ g') (hl : s.1.length ≤ 140737488355328) :
    Calls Tryz.prog 66 #[.pointer (some ⟨gc, 0, none⟩), .slice (some ⟨w.heap.size, 0, none⟩) 2 2] (w.alloc (.cells (ptrs [(g, k), (g', 0)]).toArray 100)) fun e w' => e = .returned (.tuple #[]) ∧
      Rd w' B gc (rnum 8 (rnum 8 s).2).2 ∧ Blk w' g (cs.set k (.int .i64 (rnum 8 s).1)) t ∧ Blk w' g' [.int .i64 (rnum 8 (rnum 8 s).2).1] t' ∧ Chg [gc, g, g'] w w' := by
  have hlt := hb.lt
  have hlt' := hb'.lt
  have hgl := h.glt
  have ha : Chg [] w (w.alloc (.cells (ptrs [(g, k), (g', 0)]).toArray 100)) := (Chg.refl _ _).alloc _
  refine (numbersr_any [(g, k), (g', 0)] w.heap.size 2 (h.chg ha (by simp) (by simp)) (Blk.new w _ _) rfl (by omega) (fun j hj => ?_) (by omega) hl).mono fun e w' ⟨he, h1, h2, h3⟩ => ⟨he, ?_⟩
  · match j, hj with
    | 0, _ => exact ⟨hg, hB, by show g ≠ _; omega, cs, t, hb.alloc _, hk⟩
    | 1, _ => exact ⟨hg', hB', by show g' ≠ _; omega, [u], t', hb'.alloc _, by simp⟩
  · refine ⟨h1, ?_, ?_, (ha.mono (by simp)).and (h3.mono (by simp))⟩
    · have := h2 g cs t hg (hb.alloc _)
      simpa [reach, upd, Ne.symm hgg] using this
    · have := h2 g' [u] t' hg' (hb'.alloc _)
      simpa [reach, upd, hgg] using this
theorem rtext1_step (g k : Nat) (h : Rd w B gc s) (hb : Blk w g cs t) (hk : cs[k]? = some (.string (str []))) (hg : g ≠ gc) (hB : B ≤ g) (hl : s.1.length ≤ 140737488355328) :
    Calls Tryz.prog 67 #[.pointer (some ⟨gc, 0, none⟩), .slice (some ⟨w.heap.size, 0, none⟩) 1 1] (w.alloc (.cells (ptrs [(g, k)]).toArray 103)) fun e w' => e = .returned (.tuple #[]) ∧ Step B gc g (cs.set k (.string (str (rtext s).1))) t (rtext s).2 w w' := by
  have hlt := hb.lt
  have hgl := h.glt
  have ha : Chg [] w (w.alloc (.cells (ptrs [(g, k)]).toArray 103)) := (Chg.refl _ _).alloc _
  refine (textsr_any [(g, k)] w.heap.size 1 (h.chg ha (by simp) (by simp)) (Blk.new w _ _) rfl (by omega) (fun j hj => ?_) (by simp) (by omega) hl).mono fun e w' ⟨he, h1, h2, h3⟩ => ⟨he, ?_⟩
  · match j, hj with
    | 0, _ => exact ⟨hg, hB, by show g ≠ _; omega, cs, t, hb.alloc _, hk⟩
  · refine ⟨h1, ?_, (ha.mono (by simp)).and h3⟩
    have := h2 g cs t hg (hb.alloc _)
    simpa [reach, upd] using this
theorem rtext2_step (g k k' : Nat) (h : Rd w B gc s) (hb : Blk w g cs t) (hk : cs[k]? = some (.string (str []))) (hk' : cs[k']? = some (.string (str []))) (hkk : k ≠ k') (hg : g ≠ gc) (hB : B ≤ g) (hl : s.1.length ≤ 140737488355328) :
    Calls Tryz.prog 67 #[.pointer (some ⟨gc, 0, none⟩), .slice (some ⟨w.heap.size, 0, none⟩) 2 2] (w.alloc (.cells (ptrs [(g, k), (g, k')]).toArray 103)) fun e w' => e = .returned (.tuple #[]) ∧ Step B gc g ((cs.set k (.string (str (rtext s).1))).set k' (.string (str (rtext (rtext s).2).1))) t (rtext (rtext s).2).2 w w' := by
  have hlt := hb.lt
  have hgl := h.glt
  have ha : Chg [] w (w.alloc (.cells (ptrs [(g, k), (g, k')]).toArray 103)) := (Chg.refl _ _).alloc _
  refine (textsr_any [(g, k), (g, k')] w.heap.size 2 (h.chg ha (by simp) (by simp)) (Blk.new w _ _) rfl (by omega) (fun j hj => ?_) (by simpa using hkk) (by omega) hl).mono fun e w' ⟨he, h1, h2, h3⟩ => ⟨he, ?_⟩
  · match j, hj with
    | 0, _ => exact ⟨hg, hB, by show g ≠ _; omega, cs, t, hb.alloc _, hk⟩
    | 1, _ => exact ⟨hg, hB, by show g ≠ _; omega, cs, t, hb.alloc _, hk'⟩
  · refine ⟨h1, ?_, (ha.mono (by simp)).and (h3.mono (by simp))⟩
    have := h2 g cs t hg (hb.alloc _)
    simpa [reach, upd] using this
set_option maxHeartbeats 2000000 in
theorem rtext3_step (g k k' k'' : Nat) (h : Rd w B gc s) (hb : Blk w g cs t) (hk : cs[k]? = some (.string (str []))) (hk' : cs[k']? = some (.string (str []))) (hk'' : cs[k'']? = some (.string (str []))) (h1 : k ≠ k') (h2 : k ≠ k'') (h3 : k' ≠ k'') (hg : g ≠ gc) (hB : B ≤ g) (hl : s.1.length ≤ 140737488355328) :
    Calls Tryz.prog 67 #[.pointer (some ⟨gc, 0, none⟩), .slice (some ⟨w.heap.size, 0, none⟩) 3 3] (w.alloc (.cells (ptrs [(g, k), (g, k'), (g, k'')]).toArray 103)) fun e w' => e = .returned (.tuple #[]) ∧
      Step B gc g (((cs.set k (.string (str (rtext s).1))).set k' (.string (str (rtext (rtext s).2).1))).set k'' (.string (str (rtext (rtext (rtext s).2).2).1))) t (rtext (rtext (rtext s).2).2).2 w w' := by
  have hlt := hb.lt
  have hgl := h.glt
  have ha : Chg [] w (w.alloc (.cells (ptrs [(g, k), (g, k'), (g, k'')]).toArray 103)) := (Chg.refl _ _).alloc _
  refine (textsr_any [(g, k), (g, k'), (g, k'')] w.heap.size 3 (h.chg ha (by simp) (by simp)) (Blk.new w _ _) rfl (by omega) (fun j hj => ?_) (by simp [h1, h2, h3]) (by omega) hl).mono fun e w' ⟨he, h1, h2, h3⟩ => ⟨he, ?_⟩
  · match j, hj with
    | 0, _ => exact ⟨hg, hB, by show g ≠ _; omega, cs, t, hb.alloc _, hk⟩
    | 1, _ => exact ⟨hg, hB, by show g ≠ _; omega, cs, t, hb.alloc _, hk'⟩
    | 2, _ => exact ⟨hg, hB, by show g ≠ _; omega, cs, t, hb.alloc _, hk''⟩
  · refine ⟨h1, ?_, (ha.mono (by simp)).and (h3.mono (by simp))⟩
    have := h2 g cs t hg (hb.alloc _)
    simp only [reach, upd, List.map_cons, List.map_nil, List.zip_cons_cons, List.zip_nil_right, if_true] at this
    exact this
end
end Go.Proofs.YtmbpnkacggngkaaGreatDoor
