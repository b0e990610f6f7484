/- REGIONS THAT DRAW THEIR ORDER: what reads, and operations that make memory, by turns. No program is named. -/
import Derived.Test.YtgalhnobckoneaaGreatDoorMix
namespace Go.Proofs.YtgalhnobckoneaaGreatDoor
namespace Batch
open Go.RowKit
/-- Operations that give a value and leave the world alone: those of Mix, and choices, look-ups in maps. -/
def calm2 : Op → Bool
  | .pick _ _ _ => true
  | .lookup _ _ _ _ => true
  | .unOp _ _ _ => true
  | .call c => match c.callee with
    | .builtin .len => true
    | _ => false
  | o => calm o
theorem calm2_value {P : Program} {o : Oper} (h : calm2 o.op = true) (ρ : Operand → Value) (w w' : World) (n : Next) (hr : (execOp ρ o).run P w = .ok n w') : ∃ u, n = .value u := by
  by_cases hv : calm o.op = true
  · exact calm_value hv ρ w w' n hr
  · obtain ⟨dst, op, type, pos, after, guard⟩ := o
    have key : ∀ (s : Sem Value), (do pure (Next.value (← s)) : Sem Next).run P w = .ok n w' → ∃ u, n = .value u := fun s hs => by
      rw [Sem.run_bind] at hs
      cases hq : s.run P w with
      | halt q w1 => rw [hq] at hs; cases hs
      | ok u w1 =>
        rw [hq] at hs
        simp only [Result.andThen_ok, Sem.run_pure, Result.ok.injEq] at hs
        exact ⟨u, hs.1.symm⟩
    cases op <;> first | (exfalso; simp [calm2, calm, valued] at h hv; done) | skip
    case neg.pick c x y =>
      unfold execOp at hr
      simp only [Sem.run_bind] at hr
      cases hq : (asBool (ρ c)).run P w with
      | halt q w1 => rw [hq] at hr; cases hr
      | ok u w1 =>
        rw [hq] at hr
        simp only [Result.andThen_ok, Sem.run_pure, Result.ok.injEq] at hr
        exact ⟨_, hr.1.symm⟩
    case neg.call c =>
      obtain ⟨callee, args, ats⟩ := c
      cases callee with
      | builtin b =>
        cases b <;> first | (exfalso; simp [calm2] at h; done) | skip
        simp [execOp, resolve, invoke] at hr
        exact key (Builtin.len_ ats type (args.map ρ)) hr
      | invoke r nme => exfalso; simp [calm2] at h
      | value g => exfalso; simp [calm2] at h
    all_goals exact key _ hr
section
variable {P : Program} {ops : Array Oper} {md : Region.Mode} {R : World → World → Prop} {w0 : World}
def calmAt2 (ops : Array Oper) (i : Nat) : Bool := match ops[i]? with | some o => calm2 o.op | none => false
theorem wpOp_calm2 {i : Nat} {a : Act} {K : Act → Prop} {K' : Act → World → Prop} {Q' : Exit → Act → World → Prop} {C : World → Prop} {w : World} (hc : calmAt2 ops i = true) (hC : C w) (h : ∀ a, K a → K' a w) (hh : qOp P ops C i K a) : wpOp P ops Q' i K' a w := by
  unfold qOp at hh
  unfold wpOp
  unfold calmAt2 at hc
  cases ho : ops[i]? with
  | none => rw [ho] at hc; cases hc
  | some o =>
    simp only [ho] at hh hc ⊢
    split
    · rename_i hw
      simp only [hw, if_true] at hh
      refine .inl ?_
      obtain ⟨v, h1, h2⟩ := hh
      have h3 := h1 w hC
      unfold Oper.quietAt at h3
      unfold Oper.wp
      cases hr : (execOp a.eval o).run P w with
      | halt q w' => rw [hr] at h3; exact h3.elim
      | ok n w' =>
        obtain ⟨u, rfl⟩ := calm2_value hc a.eval w w' n hr
        rw [hr] at h3
        obtain ⟨rfl, rfl⟩ := h3
        exact h _ h2
    · rename_i hw
      simp only [hw] at hh
      exact h _ hh

end
section
variable {P : Program} {ops : Array Oper} {md : Region.Mode} {R : World → World → Prop} {w0 : World}
/-- As wpMix, where one that makes memory may lean on what is known of those ahead. -/
def wpMixF (P : Program) (md : Region.Mode) (ops : Array Oper) (R : World → World → Prop) (w0 : World) (B : List Nat) (L : List Item) (Q : Array Bool → Act → (World → Prop) → Prop) : Nat → Array Bool → Act → (World → Prop) → Prop
  | 0, listed, a, F => Q listed a F
  | f + 1, listed, a, F => Region.ready md ops listed ≠ [] ∧ ∀ i ∈ Region.ready md ops listed,
      (i ∈ B ∧ qOp P ops (R w0) i (fun a' => wpMixF P md ops R w0 B L Q f (listed.setIfInBounds i true) a' F) a) ∨
      (∃ x ∈ L, x.1 = i ∧ ∃ o, ops[i]? = some o ∧ Region.wanted o (yielded ops a.tmps) = true ∧ (∀ w, R w0 w → F w → gives P R x.2 w ((execOp a.eval o).run P w)) ∧
        ∀ v, (∃ w, x.2 v w) → wpMixF P md ops R w0 B L Q f (listed.setIfInBounds i true) (a.put o.dst v) (fun w => F w ∧ x.2 v w))
/-- The batch's members in an order of their own. -/
theorem wpAny_of_mixM {B M : List Nat} {L : List Item} {base : Array Bool} {g : Nat} {Q : Array Bool → Act → (World → Prop) → Prop} {Q' : Exit → Act → World → Prop} (hR : Rely R) (hst : ∀ x ∈ L, Stable R x.2) (hBM : ∀ i ∈ B, i ∈ M) (hLM : ∀ x ∈ L, x.1 ∈ M) (hcalm : ∀ i ∈ B, calmAt2 ops i = true)
    (hQ : ∀ listed a F w, R w0 w → F w → Q listed a F → wpAny P md ops Q' g listed a w) :
    ∀ (f : Nat) (listed : Array Bool) (a : Act) (F : World → Prop) (w : World), Inv md ops M base listed → R w0 w → F w → (∀ w w', R w w' → F w → F w') →
      wpMixF P md ops R w0 B L Q f listed a F → wpAny P md ops Q' (f + g) listed a w := by
  intro f
  induction f with
  | zero =>
    intro listed a F w _ hw hF _ h
    rw [Nat.zero_add]
    exact hQ _ _ _ _ hw hF h
  | succ f ih =>
    intro listed a F w inv hw hF hFs h
    rw [show f + 1 + g = (f + g) + 1 by omega]
    refine ⟨fun h0 => absurd h0 h.1, fun i hi => ?_⟩
    rcases h.2 i hi with ⟨hiB, hq⟩ | ⟨x, hx, rfl, o, ho, hwa, hg, hk⟩
    · exact wpOp_calm2 (C := R w0) (hcalm i hiB) hw (fun a' ha' => ih _ a' F w (inv.set (hBM i hiB) hi) hw hF hFs ha') hq
    · have inv' := inv.set (hLM x hx) hi
      have step : ∀ v w', R w w' → x.2 v w' → wpAny P md ops Q' (f + g) (listed.setIfInBounds x.1 true) (a.put o.dst v) w' := fun v w' hww hTv =>
        ih _ _ _ w' inv' (hR.trans hw hww) ⟨hFs _ _ hww hF, hTv⟩ (fun w1 w2 h12 h1 => ⟨hFs _ _ h12 h1.1, hst x hx _ _ _ h12 h1.2⟩) (hk v ⟨w', hTv⟩)
      unfold wpOp
      simp only [ho]
      rw [if_pos hwa]
      refine .inl ?_
      have hgw := hg w hw hF
      unfold Oper.wp
      generalize (execOp a.eval o).run P w = r at *
      cases r with
      | ok m w' =>
        cases m <;> simp only [gives] at hgw <;> simp only [Oper.upon]
        case value u => exact step u w' hgw.1 hgw.2
        case skip => exact step undef w' hgw.1 hgw.2
        case enter f' args =>
          obtain ⟨rfl, hcall⟩ := hgw
          exact hcall.mono fun e w'' ⟨v, he, h1, h2⟩ => by subst he; exact step v w'' h1 h2
      | halt q w' => simp only [gives] at hgw
theorem wpMix_firstM {B M : List Nat} {L : List Item} {Q : Array Bool → Act → (World → Prop) → Prop} {base fin : Array Bool} {i : Nat} {oi : Oper} {v : Value} (hi : ops[i]? = some oi) (hsel : ∀ (j : Nat) (o : Oper) cs b, ops[j]? = some o → o.op ≠ .select cs b)
    (hc : closedB md ops base M = true) (hBM : ∀ i ∈ B, i ∈ M) (hiB : i ∈ B) (hfin : ∀ j ∈ M, fin.getD j true = true) (hQ : ∀ listed a F, Q listed a F → listed = fin) :
    ∀ (f : Nat) (listed : Array Bool) (a : Act) (F : World → Prop), Inv md ops M base listed →
      (∀ j oj, ops[j]? = some oj → j ≠ i → listed.getD j true = false → (∀ e ∈ oj.after, Region.binds md e = true → e.on ≠ i) → oi.apart ops oj = true) →
      i ∈ Region.ready md ops listed → YieldsIn P ops (R w0) oi v a →
      wpMixF P md ops R w0 B L Q f (listed.setIfInBounds i true) (a.put oi.dst v) F → wpMixF P md ops R w0 B L Q (f + 1) listed a F := by
  intro f
  induction f with
  | zero =>
    intro listed a F inv _ hr hy H
    have hun := (mem_ready.1 hr).1
    refine ⟨fun h => (by rw [h] at hr; cases hr), fun j hj => ?_⟩
    have hjB := inv.stays hc (hBM _ hiB) hun hj
    by_cases hji : j = i
    · subst hji; exact .inl ⟨hiB, hy.qOp hi H⟩
    · exfalso
      have h1 := ready_mono hj hji
      rw [hQ _ _ _ H] at h1
      have h2 := (mem_ready.1 h1).1
      rw [hfin j hjB] at h2
      cases h2
  | succ f ih =>
    intro listed a F inv hfree hr hy H
    have hun := (mem_ready.1 hr).1
    refine ⟨fun h => (by rw [h] at hr; cases hr), fun j hj => ?_⟩
    have hjB := inv.stays hc (hBM _ hiB) hun hj
    by_cases hji : j = i
    · subst hji; exact .inl ⟨hiB, hy.qOp hi H⟩
    · have h1 := H.2 j (ready_mono hj hji)
      obtain ⟨hjun, oj, hoj, hall⟩ := mem_ready.1 hj
      have hnot : ∀ e ∈ oj.after, Region.binds md e = true → e.on ≠ i := fun e he hb heq => by
        have h1 := hall e he hb
        rw [heq, getD_both hun] at h1
        cases h1
      have hap := hfree j oj hoj hji hjun hnot
      have hfree' : ∀ k ok, ops[k]? = some ok → k ≠ i → (listed.setIfInBounds j true).getD k true = false →
          (∀ e ∈ ok.after, Region.binds md e = true → e.on ≠ i) → oi.apart ops ok = true := fun k ok hk hki hun hno => by
        refine hfree k ok hk hki ?_ hno
        by_cases hjk : j = k
        · subst hjk; exact hjun
        · rw [getD_set_ne true hjk] at hun; exact hun
      rcases h1 with ⟨hjB', h1⟩ | ⟨x, hx, hxj, o, ho, hwa, hg, hk⟩
      · refine .inl ⟨hjB', ?_⟩
        have h2 := qOp_put hoj hap (fun cs b => hsel i oi cs b hi) (fun cs b => hsel j oj cs b hoj) hy h1
        refine qOp_mono (fun a' h3 => ih (listed.setIfInBounds j true) a' F (inv.set hjB hj) hfree' (ready_mono hr (Ne.symm hji)) h3.1 ?_) h2
        rw [Array.setIfInBounds_comm _ _ hji]
        exact h3.2
      · have : o = oj := Option.some.inj (ho.symm.trans hoj)
        subst this
        obtain ⟨g1, g2, g3⟩ := Oper.apart_spec hap
        refine .inr ⟨x, hx, hxj, o, ho, ?_, fun w hw hFw => ?_, fun u hu => ?_⟩
        · rw [wanted_put o a oi.dst v g1] at hwa
          exact hwa
        · have := hg w hw hFw
          rw [execOp_put o (fun cs b => hsel j o cs b ho) a oi.dst v g1] at this
          exact this
        · refine ih (listed.setIfInBounds j true) (a.put o.dst u) _ (inv.set hjB hj) hfree' (ready_mono hr (Ne.symm hji)) (hy.of_same (execOp_put oi (fun cs b => hsel i oi cs b hi) a o.dst u g3) (wanted_put oi a o.dst u g3)) ?_
          rw [Array.setIfInBounds_comm _ _ hji, ← Act.put_comm a v u g2]
          exact hk u hu

/-- What turns are to show: reads, then one that makes memory; and so on. -/
def wpTurns (P : Program) (ops : Array Oper) (R : World → World → Prop) (w0 : World) (Q : Act → (World → Prop) → Prop) : List (List Nat × Item) → Act → (World → Prop) → Prop
  | [], a, F => Q a F
  | (r, x) :: rest, a, F => wpQuiet P ops (R w0) (fun a' => ∃ o, ops[x.1]? = some o ∧ Region.wanted o (yielded ops a'.tmps) = true ∧ (∀ w, R w0 w → F w → gives P R x.2 w ((execOp a'.eval o).run P w)) ∧
      ∀ v, (∃ w, x.2 v w) → wpTurns P ops R w0 Q rest (a'.put o.dst v) (fun w => F w ∧ x.2 v w)) (r.filterMap (ops[·]?)) a
def turnsB (md : Region.Mode) (ops : Array Oper) : List (List Nat × Nat) → Array Bool → Bool
  | [], _ => true
  | (r, k) :: T, listed => seqOK md ops r listed && decide (Region.ready md ops (lay listed r) = [k]) && turnsB md ops T ((lay listed r).setIfInBounds k true)
def layT : List (List Nat × Nat) → Array Bool → Array Bool
  | [], s => s
  | (r, k) :: T, s => layT T ((lay s r).setIfInBounds k true)
def sizeT : List (List Nat × Nat) → Nat
  | [] => 0
  | (r, _) :: T => r.length + (sizeT T + 1)
theorem wpMix_quiet {B M : List Nat} {L : List Item} {Q : Array Bool → Act → (World → Prop) → Prop} {base fin : Array Bool} {F : World → Prop} (hsel : ∀ (j : Nat) (o : Oper) cs b, ops[j]? = some o → o.op ≠ .select cs b)
    (hc : closedB md ops base M = true) (hBM : ∀ i ∈ B, i ∈ M) (hfin : ∀ j ∈ M, fin.getD j true = true) (hQ : ∀ listed a F, Q listed a F → listed = fin) (n : Nat) :
    ∀ (l : List Nat) (listed : Array Bool) (a : Act) (K : Act → Prop), (∀ i ∈ l, i ∈ B) → Inv md ops M base listed → seqOK md ops l listed = true →
      (∀ a', Inv md ops M base (lay listed l) → K a' → wpMixF P md ops R w0 B L Q n (lay listed l) a' F) → wpQuiet P ops (R w0) K (l.filterMap (ops[·]?)) a → wpMixF P md ops R w0 B L Q (l.length + n) listed a F
  | [], listed, a, K, _, inv, _, hK, h => by
    rw [List.length_nil, Nat.zero_add]
    exact hK a inv h
  | i :: l, listed, a, K, hl, inv, hsq, hK, h => by
    simp only [seqOK, Bool.and_eq_true] at hsq
    obtain ⟨⟨hr, hfr⟩, hB'⟩ := hsq
    have hr' : i ∈ Region.ready md ops listed := by simpa using hr
    obtain ⟨_, o, ho, _⟩ := mem_ready.1 hr'
    have hiB := hl i List.mem_cons_self
    have hstp : qOp P ops (R w0) i (wpQuiet P ops (R w0) K (l.filterMap (ops[·]?))) a := by
      unfold qOp
      simp only [ho]
      rw [List.filterMap_cons_some ho] at h
      exact h
    obtain ⟨v, hy, hK'⟩ := yieldsIn_of_qOp ho hstp
    have := wpMix_quiet hsel hc hBM hfin hQ n l (listed.setIfInBounds i true) _ K (fun k hk => hl k (List.mem_cons_of_mem _ hk)) (inv.set (hBM _ hiB) hr') hB' hK hK'
    rw [show (i :: l).length + n = (l.length + n) + 1 by simp only [List.length_cons]; omega]
    exact wpMix_firstM ho hsel hc hBM hiB hfin hQ _ listed a F inv (Region.free_spec ho hfr) hr' hy this
theorem wpMix_turns {B M : List Nat} {L0 : List Item} {Qf : Act → (World → Prop) → Prop} {base fin : Array Bool} (hsel : ∀ (j : Nat) (o : Oper) cs b, ops[j]? = some o → o.op ≠ .select cs b)
    (hc : closedB md ops base M = true) (hBM : ∀ i ∈ B, i ∈ M) (hLM : ∀ x ∈ L0, x.1 ∈ M) (hfin : ∀ j ∈ M, fin.getD j true = true) :
    ∀ (S : List (List Nat × Item)) (listed : Array Bool) (a : Act) (F : World → Prop), (∀ s ∈ S, (∀ i ∈ s.1, i ∈ B) ∧ s.2 ∈ L0) → Inv md ops M base listed → turnsB md ops (S.map fun s => (s.1, s.2.1)) listed = true → layT (S.map fun s => (s.1, s.2.1)) listed = fin →
    wpTurns P ops R w0 Qf S a F → wpMixF P md ops R w0 B L0 (fun listed' a' F' => listed' = fin ∧ Qf a' F') (sizeT (S.map fun s => (s.1, s.2.1))) listed a F
  | [], _, _, _, _, _, _, hf, h => ⟨hf, h⟩
  | (r, x) :: S, listed, a, F, hS, inv, hs, hf, h => by
    simp only [List.map_cons, turnsB, Bool.and_eq_true, decide_eq_true_eq] at hs
    have h0 := hS (r, x) List.mem_cons_self
    refine wpMix_quiet hsel hc hBM hfin (fun _ _ _ hq => hq.1) _ r listed a _ h0.1 inv hs.1.1 (fun a' inv' hK => ?_) h
    refine ⟨fun h1 => (by rw [hs.1.2] at h1; cases h1), fun i hi => ?_⟩
    have hi' := hi
    rw [hs.1.2] at hi
    have hix : i = x.1 := by simpa using hi
    subst hix
    obtain ⟨o, k1, k2, k3, k4⟩ := hK
    exact .inr ⟨x, h0.2, rfl, o, k1, k2, k3, fun v hv => wpMix_turns hsel hc hBM hLM hfin S _ _ _ (fun y hy => hS y (List.mem_cons_of_mem _ hy)) (inv'.set (hLM x h0.2) hi') hs.2 hf (k4 v hv)⟩
def orderT (S : List (List Nat × Nat)) : List Nat := S.flatMap fun s => s.1 ++ [s.2]
def turnB (md : Region.Mode) (ops : Array Oper) (base : Array Bool) (S : List (List Nat × Nat)) : Bool :=
  Region.noSelect ops && decide (base.size = ops.size) && closedB md ops base (orderT S) && (S.all fun s => s.1.all fun i => calmAt2 ops i) && turnsB md ops S base && (orderT S).all fun j => (layT S base).getD j true
/-- TURNS: what reads, then what makes memory, and again. -/
theorem wpAny_turns {Q' : Exit → Act → World → Prop} {a : Act} {w : World} {base : Array Bool} {N fuel : Nat} (hR : Rely R) (hw0 : R w0 w) (S : List (List Nat × Item)) (hB : turnB md ops base (S.map fun s => (s.1, s.2.1)) = true) (hst : ∀ s ∈ S, Stable R s.2.2) (hN : N = sizeT (S.map fun s => (s.1, s.2.1)) + fuel)
    (h : wpTurns P ops R w0 (fun a' F => ∀ w', R w0 w' → F w' → wpAny P md ops Q' fuel (layT (S.map fun s => (s.1, s.2.1)) base) a' w') S a (fun _ => True)) : wpAny P md ops Q' N base a w := by
  simp only [turnB, Bool.and_eq_true, decide_eq_true_eq] at hB
  obtain ⟨⟨⟨⟨⟨hsel, hsz⟩, hc⟩, hcalm⟩, hts⟩, hfin⟩ := hB
  subst hN
  have hsel' := Region.noSelect_spec hsel
  have hbm : ∀ s ∈ S, (∀ i ∈ s.1, i ∈ orderT (S.map fun s => (s.1, s.2.1))) ∧ s.2.1 ∈ orderT (S.map fun s => (s.1, s.2.1)) := fun s hs =>
    ⟨fun i hi => List.mem_flatMap.2 ⟨(s.1, s.2.1), List.mem_map.2 ⟨s, hs, rfl⟩, List.mem_append_left _ hi⟩, List.mem_flatMap.2 ⟨(s.1, s.2.1), List.mem_map.2 ⟨s, hs, rfl⟩, List.mem_append_right _ (List.mem_singleton.2 rfl)⟩⟩
  have hcm : ∀ i ∈ S.flatMap (·.1), calmAt2 ops i = true := fun i hi => by
    obtain ⟨s, hs, hi⟩ := List.mem_flatMap.1 hi
    exact List.all_eq_true.1 (List.all_eq_true.1 hcalm (s.1, s.2.1) (List.mem_map.2 ⟨s, hs, rfl⟩)) i hi
  have hBM : ∀ i ∈ S.flatMap (·.1), i ∈ orderT (S.map fun s => (s.1, s.2.1)) := fun i hi => by
    obtain ⟨s, hs, hi⟩ := List.mem_flatMap.1 hi
    exact (hbm s hs).1 i hi
  have hLM : ∀ x ∈ S.map (·.2), x.1 ∈ orderT (S.map fun s => (s.1, s.2.1)) := fun x hx => by
    obtain ⟨s, hs, rfl⟩ := List.mem_map.1 hx
    exact (hbm s hs).2
  have hM := wpMix_turns (P := P) (R := R) (w0 := w0) (B := S.flatMap (·.1)) (L0 := S.map (·.2)) hsel' hc hBM hLM (fun j hj => List.all_eq_true.1 hfin j hj) S base a (fun _ => True) (fun s hs => ⟨fun i hi => List.mem_flatMap.2 ⟨s, hs, hi⟩, List.mem_map_of_mem hs⟩) (Inv.refl hsz) hts rfl h
  refine wpAny_of_mixM hR (fun x hx => ?_) hBM hLM hcm (fun listed a' F w' hw' hF hq => by obtain ⟨rfl, h2⟩ := hq; exact h2 w' hw' hF) _ base a _ w (Inv.refl hsz) hw0 trivial (fun _ _ _ h => h) hM
  obtain ⟨s, hs, rfl⟩ := List.mem_map.1 hx
  exact hst s hs
end
/-- One that makes memory. -/
def wpItem (P : Program) (l : List Oper) (x : Item) (w : World) (K : Act → (World → Prop) → Prop) (F : World → Prop) (a : Act) : Prop :=
  ∃ o, l.toArray[x.1]? = some o ∧ Region.wanted o (yielded l.toArray a.tmps) = true ∧ (∀ w', GR w w' → F w' → gives P GR x.2 w' ((execOp a.eval o).run P w')) ∧ ∀ v, (∃ w, x.2 v w) → K (a.put o.dst v) (fun w => F w ∧ x.2 v w)
/-- The same, as a walk meets it: the reads written out, the grown worlds spelled. -/
def wpTurnsR (P : Program) (l : List Oper) (w : World) (Q : Act → (World → Prop) → Prop) : List (List Nat × Item) → Act → (World → Prop) → Prop
  | [], a, F => Q a F
  | (r, x) :: rest, a, F => wpQuiet P l.toArray (fun w' => ∃ p : Grew, w' = grew w p) (wpItem P l x w (wpTurnsR P l w Q rest) F) (pick l r) a
theorem turnsR_cons {P : Program} {l : List Oper} {w : World} {Q : Act → (World → Prop) → Prop} {r : List Nat} {x : Item} {rest : List (List Nat × Item)} {a : Act} {F : World → Prop} (h : wpQuiet P l.toArray (fun w' => ∃ p : Grew, w' = grew w p) (wpItem P l x w (wpTurnsR P l w Q rest) F) (pick l r) a) : wpTurnsR P l w Q ((r, x) :: rest) a F := h
theorem wpQuiet_mono {P : Program} {ops : Array Oper} {C : World → Prop} {K K' : Act → Prop} (h : ∀ a, K a → K' a) : ∀ {L : List Oper} {a : Act}, wpQuiet P ops C K L a → wpQuiet P ops C K' L a
  | [], a, hh => h a hh
  | o :: L, a, hh => by
    unfold wpQuiet at hh ⊢
    split
    · rename_i hw
      simp only [hw, if_true] at hh
      exact Oper.quiet_mono (fun a => wpQuiet_mono h) hh
    · rename_i hw
      simp only [hw] at hh
      exact wpQuiet_mono h hh
theorem wpTurnsR_turns {P : Program} {l : List Oper} {w : World} {Q : Act → (World → Prop) → Prop} : ∀ (S : List (List Nat × Item)) (a : Act) (F : World → Prop), (S.all (fun s => s.1.all fun i => decide (i < l.length))) = true → wpTurnsR P l w Q S a F → wpTurns P l.toArray GR w Q S a F
  | [], _, _, _, h => h
  | (r, x) :: S, a, F, hS, h => by
    simp only [List.all_cons, Bool.and_eq_true] at hS
    unfold wpTurnsR at h
    rw [← pick_eq l r hS.1] at h
    exact wpQuiet_mono (fun a' ⟨o, k1, k2, k3, k4⟩ => ⟨o, k1, k2, k3, fun v hv => wpTurnsR_turns S _ _ hS.2 (k4 v hv)⟩) h
theorem wpAny_turnsT {P : Program} {Q : Exit → Act → World → Prop} {a : Act} {w : World} {l : List Oper} {base : Array Bool} {N : Nat} (S : List (List Nat × Item)) (T : List Nat)
    (hB : (S.all (fun s => s.1.all fun i => decide (i < l.length)) && T.all (fun i => decide (i < l.length)) && turnB .any l.toArray base (S.map fun s => (s.1, s.2.1)) && decide (sizeT (S.map fun s => (s.1, s.2.1)) + T.length = N) && seqL .any l.toArray T (layT (S.map fun s => (s.1, s.2.1)) base)) = true)
    (hst : ∀ s ∈ S, Stable GR s.2.2) (h : wpTurnsR P l w (fun a'' F => ∀ w', GR w w' → F w' → wpList P l.toArray Q (pick l T) a'' w') S a (fun _ => True)) : wpAny P .any l.toArray Q N base a w.drew := by
  simp only [Bool.and_eq_true, decide_eq_true_eq] at hB
  obtain ⟨⟨⟨⟨g1, g2⟩, h1⟩, h2⟩, h3⟩ := hB
  rw [← pick_eq l T g2] at h
  refine wpAny_turns (fuel := T.length) rely_gr (GR.of (Below.refl _ _).drew) S h1 hst (by omega) ?_
  have h4 := wpTurnsR_turns S a (fun _ => True) g1 h
  have key : ∀ (L0 : List (List Nat × Item)) (a : Act) (F : World → Prop), wpTurns P l.toArray GR w (fun a'' F => ∀ w', GR w w' → F w' → wpList P l.toArray Q (T.filterMap (fun i => l.toArray[i]?)) a'' w') L0 a F →
      wpTurns P l.toArray GR w (fun a' F => ∀ w', GR w w' → F w' → wpAny P .any l.toArray Q T.length (layT (S.map fun s => (s.1, s.2.1)) base) a' w') L0 a F := by
    intro L0
    induction L0 with
    | nil => intro a F h w' hw hF; exact wpAny_of_seqL T _ a w' h3 (h w' hw hF)
    | cons s L0 ih =>
      obtain ⟨r, x⟩ := s
      intro a F h
      exact wpQuiet_mono (fun a' ⟨o, k1, k2, k3, k4⟩ => ⟨o, k1, k2, k3, fun v hv => ih _ _ (k4 v hv)⟩) h
  exact key _ _ _ h4
/-- A REGION THAT DRAWS ITS ORDER: turns, then a tail T in its order. -/
theorem wp_region_turns {P : Program} {id : Nat} {Q : Exit → Act → World → Prop} {a : Act} {w : World} {l : List Oper} (S : List (List Nat × Item)) (T : List Nat) (hm : P.follows .mixedOrders = true)
    (hB : (S.all (fun s => s.1.all fun i => decide (i < l.length)) && T.all (fun i => decide (i < l.length)) && turnB .any l.toArray (Array.replicate l.length false) (S.map fun s => (s.1, s.2.1)) && decide (sizeT (S.map fun s => (s.1, s.2.1)) + T.length = l.length) && seqL .any l.toArray T (layT (S.map fun s => (s.1, s.2.1)) (Array.replicate l.length false))) = true)
    (hst : ∀ s ∈ S, Stable GR s.2.2)
    (h : wpTurnsR P l w (fun a'' F => ∀ w', GR w w' → F w' → wpList P l.toArray Q (pick l T) a'' w') S a (fun _ => True)) : (Code.region id l.toArray true).wp P Q a w :=
  wp_region_start hm (wpAny_turnsT S T hB hst h)
/-- The same behind moves M that nothing waits for early. -/
theorem wp_region_move_turns {P : Program} {id : Nat} {Q : Exit → Act → World → Prop} {a : Act} {w : World} {l : List Oper} (M : List Nat) (S : List (List Nat × Item)) (T : List Nat) (hm : P.follows .mixedOrders = true)
    (hM : (M.all (fun i => decide (i < l.length)) && Region.noSelect l.toArray && moveB l.toArray M && seqOK .any l.toArray M (Array.replicate l.length false) && decide (M.length ≤ l.length)) = true)
    (hB : (S.all (fun s => s.1.all fun i => decide (i < l.length)) && T.all (fun i => decide (i < l.length)) && turnB .any l.toArray (lay (Array.replicate l.length false) M) (S.map fun s => (s.1, s.2.1)) && decide (sizeT (S.map fun s => (s.1, s.2.1)) + T.length = l.length - M.length) && seqL .any l.toArray T (layT (S.map fun s => (s.1, s.2.1)) (lay (Array.replicate l.length false) M))) = true)
    (hst : ∀ s ∈ S, Stable GR s.2.2)
    (h : wpQuiet P l.toArray (fun _ => True) (fun a0 => wpTurnsR P l w (fun a'' F => ∀ w', GR w w' → F w' → wpList P l.toArray (Qn Q) (pick l T) a'' w') S a0 (fun _ => True)) (pick l M) a) : (Code.region id l.toArray true).wp P Q a w := by
  simp only [Bool.and_eq_true, decide_eq_true_eq] at hM
  obtain ⟨⟨⟨⟨g1, h0⟩, h1⟩, h2⟩, h4⟩ := hM
  rw [← pick_eq l M g1] at h
  refine wp_region_start hm (wpAny_qn _ _ _ _ ?_)
  have := wpAny_moves (Q := Qn Q) (w := w.drew) (fuel := l.length - M.length) h0 (fun _ _ _ _ _ h => h.elim) M (Array.replicate l.length false) a h1 h2 rfl (fun a' ha' => wpAny_turnsT S T hB hst ha') h
  rwa [show M.length + (l.length - M.length) = l.length by omega] at this
end Batch
end Go.Proofs.YtgalhnobckoneaaGreatDoor
