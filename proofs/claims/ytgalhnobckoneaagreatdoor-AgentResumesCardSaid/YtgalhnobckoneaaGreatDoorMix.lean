/- REGIONS THAT DRAW THEIR ORDER, met in one batch: operations that read, quiet calls, and, behind all these calls, operations that make memory. No program is named. -/
import Derived.Test.YtgalhnobckoneaaGreatDoorBatch
namespace Go.Proofs.YtgalhnobckoneaaGreatDoor
namespace Batch
open Go.RowKit

/-- Operations that give a value, or nothing, and leave the world alone. -/
def calm : Op → Bool
  | .load _ _ => true
  | .build _ _ => true
  | .nilCheck _ => true
  | o => valued o
theorem calm_value {P : Program} {o : Oper} (h : calm o.op = true) (ρ : Operand → Value) (w w' : World) (n : Next) (hr : (execOp ρ o).run P w = .ok n w') : ∃ u, n = .value u := by
  by_cases hv : valued o.op = true
  · exact valued_value hv ρ w w' n hr
  · obtain ⟨dst, op, type, pos, after, guard⟩ := o
    cases op <;> first | (exfalso; simp [calm, valued] at h hv; done) | skip
    case neg.nilCheck x =>
      unfold execOp at hr
      simp only at hr
      generalize ρ x = y at hr
      have hp : (runtimePanic .nilDeref : Sem Next).run P w = .ok n w' → False := fun h => by simp [runtimePanic] at h
      split at hr
      · exact (hp hr).elim
      · exact (hp hr).elim
      · exact (hp hr).elim
      · split at hr
        · exact (hp hr).elim
        · rename_i t vv _
          simp only [Sem.run_bind] at hr
          cases hq : (program : Sem Program).run P w with
          | halt q w1 => rw [hq] at hr; cases hr
          | ok u w1 =>
            rw [hq] at hr
            simp only [Result.andThen_ok] at hr
            cases hq2 : (nilAhead (u.types.size + Made.depth) t vv _).run P w1 with
            | halt q w2 => rw [hq2] at hr; cases hr
            | ok b w2 =>
              rw [hq2] at hr
              simp only [Result.andThen_ok] at hr
              split at hr
              · simp at hr
              · simp at hr
                exact ⟨_, hr.1.symm⟩
        · simp at hr
          exact ⟨_, hr.1.symm⟩
      · simp at hr
        exact ⟨_, hr.1.symm⟩
    all_goals
      have key : ∀ (s : Sem Value), (do pure (Next.value (← s)) : Sem Next).run P w = .ok n w' → ∃ u, n = .value u := fun s hs => by
        rw [Sem.run_bind] at hs
        cases hq : s.run P w with
        | halt q w1 => rw [hq] at hs; cases hs
        | ok u w1 =>
          rw [hq] at hs
          simp only [Result.andThen_ok, Sem.run_pure, Result.ok.injEq] at hs
          exact ⟨u, hs.1.symm⟩
      exact key _ hr
section
variable {P : Program} {ops : Array Oper} {md : Region.Mode} {R : World → World → Prop} {w0 : World}

def calmAt (ops : Array Oper) (i : Nat) : Bool := match ops[i]? with | some o => calm o.op | none => false
def wpMix (P : Program) (md : Region.Mode) (ops : Array Oper) (R : World → World → Prop) (w0 : World) (B : List Nat) (L : List Item) (Q : Array Bool → Act → (World → Prop) → Prop) : Nat → Array Bool → Act → (World → Prop) → Prop
  | 0, listed, a, F => Q listed a F
  | f + 1, listed, a, F => Region.ready md ops listed ≠ [] ∧ ∀ i ∈ Region.ready md ops listed,
      (i ∈ B ∧ qOp P ops (R w0) i (fun a' => wpMix P md ops R w0 B L Q f (listed.setIfInBounds i true) a' F) a) ∨
      (∃ x ∈ L, x.1 = i ∧ ∃ o, ops[i]? = some o ∧ Region.wanted o (yielded ops a.tmps) = true ∧ (∀ w, R w0 w → gives P R x.2 w ((execOp a.eval o).run P w)) ∧
        ∀ v, wpMix P md ops R w0 B L Q f (listed.setIfInBounds i true) (a.put o.dst v) (fun w => F w ∧ x.2 v w))

theorem wpOp_calm {i : Nat} {a : Act} {K : Act → Prop} {K' : Act → World → Prop} {Q' : Exit → Act → World → Prop} {C : World → Prop} {w : World} (hc : calmAt ops i = true) (hC : C w) (h : ∀ a, K a → K' a w) (hh : qOp P ops C i K a) : wpOp P ops Q' i K' a w := by
  unfold qOp at hh
  unfold wpOp
  unfold calmAt at hc
  cases ho : ops[i]? with
  | none => rw [ho] at hc; cases hc
  | some o =>
    simp only [ho] at hh hc ⊢
    split
    · rename_i hw
      simp only [hw, if_true] at hh
      refine .inl ?_
      obtain ⟨v, h1, h2⟩ := hh
      have h3 := h1 w hC
      unfold Oper.quietAt at h3
      unfold Oper.wp
      cases hr : (execOp a.eval o).run P w with
      | halt q w' => rw [hr] at h3; exact h3.elim
      | ok n w' =>
        obtain ⟨u, rfl⟩ := calm_value hc a.eval w w' n hr
        rw [hr] at h3
        obtain ⟨rfl, rfl⟩ := h3
        exact h _ h2
    · rename_i hw
      simp only [hw] at hh
      exact h _ hh

/-- What is made comes behind all quiet calls. -/
def lateB (md : Region.Mode) (ops : Array Oper) (base : Array Bool) (B : List Nat) (L : List Nat) : Bool :=
  B.all fun c => calmAt ops c || L.all fun i => !(without md ops c (B ++ L) base).getD i true
theorem topo_lt : ∀ (L : List Nat) (acc : Array Bool), topo md ops L acc = true → ∀ k ∈ L, k < ops.size
  | [], _, _, k, hk => by cases hk
  | k0 :: L, acc, ht, k, hk => by
    simp only [topo, Bool.and_eq_true] at ht
    rcases List.mem_cons.1 hk with rfl | hk
    · obtain ⟨o, ho, _⟩ := depsOK_iff.1 ht.1
      exact (Array.getElem?_eq_some_iff.1 ho).1
    · exact topo_lt L _ ht.2 k hk
theorem late_listed {B L : List Nat} {base listed : Array Bool} (inv : Inv md ops (B ++ L) base listed) (hc : closedB md ops base (B ++ L) = true) (hl : lateB md ops base B L = true) {i : Nat} (hi : i ∈ L) (hr : i ∈ Region.ready md ops listed)
    {c : Nat} (hcB : c ∈ B) (hcc : calmAt ops c = false) (hci : c ≠ i) : listed.getD c true = true := by
  cases hun : listed.getD c true with
  | true => rfl
  | false =>
    exfalso
    have h1 := List.all_eq_true.1 hl c hcB
    simp only [hcc, Bool.false_or] at h1
    have h2 := List.all_eq_true.1 h1 i hi
    simp only [closedB, Bool.and_eq_true] at hc
    obtain ⟨htopo, _⟩ := hc
    have hiBL : i ∈ B ++ L := List.mem_append_right _ hi
    have inv2 := inv.set hiBL hr
    have hi_s : i < ops.size := topo_lt _ _ htopo i hiBL
    have hge := without_ge (md := md) (ops := ops) (listed := listed.setIfInBounds i true) (base := base) (i := c) (by rw [getD_set_ne false (Ne.symm hci)]; exact getD_both hun) inv2.closed (B ++ L) base base
      (fun k hk => by rw [inv.bs]; exact topo_lt _ _ htopo k hk) htopo (fun _ h => h) (fun _ h _ => h) i (lay_in _ _ _ hiBL (by rw [inv.bs]; exact hi_s)) (set_self (by rw [inv.size]; exact hi_s))
    have hsz : i < (without md ops c (B ++ L) base).size := by
      rcases Nat.lt_or_ge i (without md ops c (B ++ L) base).size with h | h
      · exact h
      · simp [Array.getElem?_eq_none h] at hge
    rw [getD_swap hsz, hge] at h2
    cases h2

theorem wpAny_of_mix {B : List Nat} {L : List Item} {base : Array Bool} {g : Nat} {Q : Array Bool → Act → (World → Prop) → Prop} {Q' : Exit → Act → World → Prop} (hR : Rely R) (hst : ∀ x ∈ L, Stable R x.2) (hc : closedB md ops base (B ++ L.map (·.1)) = true) (hl : lateB md ops base B (L.map (·.1)) = true) (hdis : ∀ x ∈ L, x.1 ∉ B)
    (hQ : ∀ listed a F w, R w0 w → F w → Q listed a F → wpAny P md ops Q' g listed a w) :
    ∀ (f : Nat) (listed : Array Bool) (a : Act) (F : World → Prop) (w : World), Inv md ops (B ++ L.map (·.1)) base listed → R w0 w → F w → (∀ w w', R w w' → F w → F w') → ((∀ w, F w) ∨ (∀ c ∈ B, calmAt ops c = false → listed.getD c true = true)) →
      wpMix P md ops R w0 B L Q f listed a F → wpAny P md ops Q' (f + g) listed a w := by
  intro f
  induction f with
  | zero =>
    intro listed a F w _ hw hF _ _ h
    rw [Nat.zero_add]
    exact hQ _ _ _ _ hw hF h
  | succ f ih =>
    intro listed a F w inv hw hF hFs hT h
    rw [show f + 1 + g = (f + g) + 1 by omega]
    refine ⟨fun h0 => absurd h0 h.1, fun i hi => ?_⟩
    rcases h.2 i hi with ⟨hiB, hq⟩ | ⟨x, hx, rfl, o, ho, hwa, hg, hk⟩
    · have inv' := inv.set (List.mem_append_left _ hiB) hi
      cases hcalm : calmAt ops i with
      | true =>
        refine wpOp_calm (C := R w0) hcalm hw (fun a' ha' => ih _ a' F w inv' hw hF hFs ?_ ha') hq
        rcases hT with hT | hT
        · exact .inl hT
        · refine .inr fun c hcB hcc => ?_
          have hne : i ≠ c := fun e => by rw [e, hcc] at hcalm; cases hcalm
          rw [getD_set_ne true hne]
          exact hT c hcB hcc
      | false =>
        have hT' : ∀ w, F w := by
          rcases hT with hT | hT
          · exact hT
          · have h1 := hT i hiB hcalm
            rw [(mem_ready.1 hi).1] at h1
            cases h1
        exact wpOp_of_qOp (C := R w0) hw (fun a' w' hw' ha' => ih _ a' F w' inv' hw' (hT' w') hFs (.inl hT') ha') hq
    · have hxL : x.1 ∈ L.map (·.1) := List.mem_map_of_mem hx
      have inv' := inv.set (List.mem_append_right _ hxL) hi
      have hall : ∀ c ∈ B, calmAt ops c = false → (listed.setIfInBounds x.1 true).getD c true = true := fun c hcB hcc => by
        have hne : c ≠ x.1 := fun e => hdis x hx (by rw [← e]; exact hcB)
        rw [getD_set_ne true (Ne.symm hne)]
        exact late_listed inv hc hl hxL hi hcB hcc hne
      have step : ∀ v w', R w w' → x.2 v w' → wpAny P md ops Q' (f + g) (listed.setIfInBounds x.1 true) (a.put o.dst v) w' := fun v w' hww hTv =>
        ih _ _ _ w' inv' (hR.trans hw hww) ⟨hFs _ _ hww hF, hTv⟩ (fun w1 w2 h12 h1 => ⟨hFs _ _ h12 h1.1, hst x hx _ _ _ h12 h1.2⟩) (.inr hall) (hk v)
      unfold wpOp
      simp only [ho]
      rw [if_pos hwa]
      refine .inl ?_
      have hgw := hg w hw
      unfold Oper.wp
      generalize (execOp a.eval o).run P w = r at *
      cases r with
      | ok m w' =>
        cases m <;> simp only [gives] at hgw <;> simp only [Oper.upon]
        case value u => exact step u w' hgw.1 hgw.2
        case skip => exact step undef w' hgw.1 hgw.2
        case enter f' args =>
          obtain ⟨rfl, hcall⟩ := hgw
          exact hcall.mono fun e w'' ⟨v, he, h1, h2⟩ => by subst he; exact step v w'' h1 h2
      | halt q w' => simp only [gives] at hgw

theorem wpMix_first {B : List Nat} {L : List Item} {Q : Array Bool → Act → (World → Prop) → Prop} {base fin : Array Bool} {i : Nat} {oi : Oper} {v : Value} (hi : ops[i]? = some oi) (hsel : ∀ (j : Nat) (o : Oper) cs b, ops[j]? = some o → o.op ≠ .select cs b)
    (hc : closedB md ops base (B ++ L.map (·.1)) = true) (hiB : i ∈ B) (hfin : ∀ j ∈ B ++ L.map (·.1), fin.getD j true = true) (hQ : ∀ listed a F, Q listed a F → listed = fin) :
    ∀ (f : Nat) (listed : Array Bool) (a : Act) (F : World → Prop), Inv md ops (B ++ L.map (·.1)) base listed →
      (∀ j oj, ops[j]? = some oj → j ≠ i → listed.getD j true = false → (∀ e ∈ oj.after, Region.binds md e = true → e.on ≠ i) → oi.apart ops oj = true) →
      i ∈ Region.ready md ops listed → YieldsIn P ops (R w0) oi v a →
      wpMix P md ops R w0 B L Q f (listed.setIfInBounds i true) (a.put oi.dst v) F → wpMix P md ops R w0 B L Q (f + 1) listed a F := by
  intro f
  induction f with
  | zero =>
    intro listed a F inv _ hr hy H
    have hun := (mem_ready.1 hr).1
    refine ⟨fun h => (by rw [h] at hr; cases hr), fun j hj => ?_⟩
    have hjB := inv.stays hc (List.mem_append_left _ hiB) hun hj
    by_cases hji : j = i
    · subst hji; exact .inl ⟨hiB, hy.qOp hi H⟩
    · exfalso
      have h1 := ready_mono hj hji
      rw [hQ _ _ _ H] at h1
      have h2 := (mem_ready.1 h1).1
      rw [hfin j hjB] at h2
      cases h2
  | succ f ih =>
    intro listed a F inv hfree hr hy H
    have hun := (mem_ready.1 hr).1
    refine ⟨fun h => (by rw [h] at hr; cases hr), fun j hj => ?_⟩
    have hjB := inv.stays hc (List.mem_append_left _ hiB) hun hj
    by_cases hji : j = i
    · subst hji; exact .inl ⟨hiB, hy.qOp hi H⟩
    · have h1 := H.2 j (ready_mono hj hji)
      obtain ⟨hjun, oj, hoj, hall⟩ := mem_ready.1 hj
      have hnot : ∀ e ∈ oj.after, Region.binds md e = true → e.on ≠ i := fun e he hb heq => by
        have h1 := hall e he hb
        rw [heq, getD_both hun] at h1
        cases h1
      have hap := hfree j oj hoj hji hjun hnot
      have hfree' : ∀ k ok, ops[k]? = some ok → k ≠ i → (listed.setIfInBounds j true).getD k true = false →
          (∀ e ∈ ok.after, Region.binds md e = true → e.on ≠ i) → oi.apart ops ok = true := fun k ok hk hki hun hno => by
        refine hfree k ok hk hki ?_ hno
        by_cases hjk : j = k
        · subst hjk; exact hjun
        · rw [getD_set_ne true hjk] at hun; exact hun
      rcases h1 with ⟨hjB', h1⟩ | ⟨x, hx, hxj, o, ho, hwa, hg, hk⟩
      · refine .inl ⟨hjB', ?_⟩
        have h2 := qOp_put hoj hap (fun cs b => hsel i oi cs b hi) (fun cs b => hsel j oj cs b hoj) hy h1
        refine qOp_mono (fun a' h3 => ih (listed.setIfInBounds j true) a' F (inv.set hjB hj) hfree' (ready_mono hr (Ne.symm hji)) h3.1 ?_) h2
        rw [Array.setIfInBounds_comm _ _ hji]
        exact h3.2
      · have : o = oj := Option.some.inj (ho.symm.trans hoj)
        subst this
        obtain ⟨g1, g2, g3⟩ := Oper.apart_spec hap
        refine .inr ⟨x, hx, hxj, o, ho, ?_, fun w hw => ?_, fun u => ?_⟩
        · rw [wanted_put o a oi.dst v g1] at hwa
          exact hwa
        · have := hg w hw
          rw [execOp_put o (fun cs b => hsel j o cs b ho) a oi.dst v g1] at this
          exact this
        · refine ih (listed.setIfInBounds j true) (a.put o.dst u) _ (inv.set hjB hj) hfree' (ready_mono hr (Ne.symm hji)) (hy.of_same (execOp_put oi (fun cs b => hsel i oi cs b hi) a o.dst u g3) (wanted_put oi a o.dst u g3)) ?_
          rw [Array.setIfInBounds_comm _ _ hji, ← Act.put_comm a v u g2]
          exact hk u

theorem wpMix_loose {B : List Nat} {L0 : List Item} {Qf : Act → (World → Prop) → Prop} {base fin : Array Bool} (hQf : ∀ a F F', (∀ w, F' w → F w) → Qf a F → Qf a F') (hsel : ∀ (j : Nat) (o : Oper) cs b, ops[j]? = some o → o.op ≠ .select cs b) (hc : closedB md ops base (B ++ L0.map (·.1)) = true) (hap : apartB ops (L0.map (·.1)) = true) :
    ∀ (n : Nat) (L : List Item) (listed : Array Bool) (a : Act) (F : World → Prop), L.length = n → (L.map (·.1)).Nodup → (∀ x ∈ L, x ∈ L0 ∧ x.1 ∈ Region.ready md ops listed) →
      (∀ i ∈ B ++ L0.map (·.1), listed.getD i true = false → i ∈ L.map (·.1)) → Inv md ops (B ++ L0.map (·.1)) base listed → lay listed (L.map (·.1)) = fin →
      wpLoose P ops R w0 Qf L a F → wpMix P md ops R w0 B L0 (fun listed' a' F' => listed' = fin ∧ Qf a' F') n listed a F := by
  intro n
  induction n with
  | zero =>
    intro L listed a F hn _ _ _ _ hf h
    have : L = [] := List.length_eq_zero_iff.1 hn
    subst this
    exact ⟨hf, h⟩
  | succ n ih =>
    intro L listed a F hn hnd hL hall inv hf h
    obtain ⟨x0, L1, rfl⟩ : ∃ x L1, L = x :: L1 := by
      cases L with
      | nil => cases hn
      | cons x L1 => exact ⟨x, L1, rfl⟩
    have hx0 := hL x0 List.mem_cons_self
    refine ⟨fun h0 => (by have := hx0.2; rw [h0] at this; cases this), fun j hj => ?_⟩
    have hjB : j ∈ B ++ L0.map (·.1) := inv.stays hc (List.mem_append_right _ (List.mem_map_of_mem hx0.1)) (mem_ready.1 hx0.2).1 hj
    have hjL := hall j hjB (mem_ready.1 hj).1
    obtain ⟨⟨j', T⟩, hmem, hje⟩ := List.mem_map.1 hjL
    have hje : j' = j := hje
    subst hje
    obtain ⟨B1, B2, hsplit⟩ := List.append_of_mem hmem
    rw [hsplit] at h hnd hf
    have hnd' := hnd
    simp only [List.map_append, List.map_cons] at hnd' hf
    have hne1 : ∀ y ∈ B1, y.1 ≠ j' := fun y hy e => by
      rw [List.nodup_append] at hnd'
      exact hnd'.2.2 y.1 (List.mem_map_of_mem hy) j' (List.mem_cons_self) e
    have hne2 : ∀ y ∈ B2, y.1 ≠ j' := fun y hy e => by
      rw [List.nodup_append] at hnd'
      exact (List.nodup_cons.1 hnd'.2.1).1 (by rw [← e]; exact List.mem_map_of_mem hy)
    have hin12 : ∀ y ∈ B1 ++ B2, y ∈ x0 :: L1 ∧ y.1 ≠ j' := fun y hy => by
      rcases List.mem_append.1 hy with h1 | h1
      · exact ⟨by rw [hsplit]; exact List.mem_append_left _ h1, hne1 y h1⟩
      · exact ⟨by rw [hsplit]; exact List.mem_append_right _ (List.mem_cons_of_mem _ h1), hne2 y h1⟩
    have hj0 : j' ∈ L0.map (·.1) := List.mem_map_of_mem (f := (·.1)) (hL _ hmem).1
    obtain ⟨o, k1, k2, k3, k4⟩ := wpLoose_pull hQf hsel hap hj0 B1 a F (fun y hy => ⟨List.mem_map_of_mem (hL y (by rw [hsplit]; exact List.mem_append_left _ hy)).1, hne1 y hy⟩) h
    refine .inr ⟨(j', T), (hL _ hmem).1, rfl, o, k1, k2, k3, fun v => ?_⟩
    refine ih (B1 ++ B2) (listed.setIfInBounds j' true) (a.put o.dst v) _ ?_ ?_ ?_ ?_ (inv.set hjB hj) ?_ (k4 v)
    · rw [hsplit] at hn
      simp only [List.length_append, List.length_cons] at hn ⊢
      omega
    · simp only [List.map_append]
      rw [List.nodup_append] at hnd' ⊢
      exact ⟨hnd'.1, (List.nodup_cons.1 hnd'.2.1).2, fun p hp q hq => hnd'.2.2 p hp q (List.mem_cons_of_mem _ hq)⟩
    · intro y hy
      obtain ⟨h1, h2⟩ := hin12 y hy
      exact ⟨(hL y h1).1, ready_mono (hL y h1).2 h2⟩
    · intro i hi hun
      have hij : i ≠ j' := by
        rintro rfl
        have hjs : i < listed.size := by
          obtain ⟨o', ho', _⟩ := (mem_ready.1 hj).2
          rw [inv.size]
          exact (Array.getElem?_eq_some_iff.1 ho').1
        rw [getD_swap (by simpa using hjs), set_self hjs] at hun
        cases hun
      rw [getD_set_ne true (Ne.symm hij)] at hun
      have h1 := hall i hi hun
      rw [hsplit] at h1
      simp only [List.map_append, List.map_cons, List.mem_append, List.mem_cons] at h1 ⊢
      rcases h1 with h1 | h1 | h1
      · exact .inl h1
      · exact absurd h1 hij
      · exact .inr h1
    · rw [← hf]
      simp only [List.map_append]
      have hcomm : ∀ (l1 : List Nat) (l2 : List Nat) (s : Array Bool), j' ∉ l1 → lay (s.setIfInBounds j' true) (l1 ++ l2) = lay s (l1 ++ j' :: l2) := by
        intro l1
        induction l1 with
        | nil => intro l2 s _; rfl
        | cons p l1 ihl =>
          intro l2 s hp
          have hpj : p ≠ j' := fun e => hp (by rw [e]; exact List.mem_cons_self)
          show lay ((s.setIfInBounds j' true).setIfInBounds p true) (l1 ++ l2) = lay (s.setIfInBounds p true) (l1 ++ j' :: l2)
          rw [← Array.setIfInBounds_comm _ _ hpj]
          exact ihl l2 _ (fun hm => hp (List.mem_cons_of_mem _ hm))
      refine hcomm _ _ _ (fun hm => ?_)
      obtain ⟨y, hy, hye⟩ := List.mem_map.1 hm
      exact hne1 y hy hye

def mixB (md : Region.Mode) (ops : Array Oper) (base : Array Bool) (B L : List Nat) : Bool :=
  Region.noSelect ops && decide (base.size = ops.size) && closedB md ops base (B ++ L) && lateB md ops base B L && seqOK md ops B base && apartB ops L && decide (B ++ L).Nodup && L.all fun i => (Region.ready md ops (lay base B)).contains i
theorem lay_append (l1 l2 : List Nat) (s : Array Bool) : lay s (l1 ++ l2) = lay (lay s l1) l2 := by simp [lay]
/-- ONE BATCH: what reads, quiet calls, and behind these calls what makes memory. -/
theorem wpAny_mix {Q' : Exit → Act → World → Prop} {a : Act} {w : World} {base : Array Bool} {N fuel : Nat} (hR : Rely R) (hw0 : R w0 w) (B : List Nat) (L : List Item) (hB : mixB md ops base B (L.map (·.1)) = true) (hst : ∀ x ∈ L, Stable R x.2) (hN : N = B.length + L.length + fuel)
    (h : wpQuiet P ops (R w0) (fun a' => wpLoose P ops R w0 (fun a' F => ∀ w', R w0 w' → F w' → wpAny P md ops Q' fuel (lay (lay base B) (L.map (·.1))) a' w') L a' (fun _ => True)) (B.filterMap (ops[·]?)) a) : wpAny P md ops Q' N base a w := by
  simp only [mixB, Bool.and_eq_true, decide_eq_true_eq] at hB
  obtain ⟨⟨⟨⟨⟨⟨⟨hsel, hsz⟩, hc⟩, hl⟩, hseq⟩, hap⟩, hnd⟩, hrd⟩ := hB
  subst hN
  have hsel' := Region.noSelect_spec hsel
  have hnd2 := hnd
  rw [List.nodup_append] at hnd2
  have hdis : ∀ x ∈ L, x.1 ∉ B := fun x hx hm => hnd2.2.2 x.1 hm x.1 (List.mem_map_of_mem hx) rfl
  have htopo : topo md ops (B ++ L.map (·.1)) base = true := by
    simp only [closedB, Bool.and_eq_true] at hc
    exact hc.1
  have hlt := topo_lt _ _ htopo
  have hfin : ∀ j ∈ B ++ L.map (·.1), (lay (lay base B) (L.map (·.1))).getD j true = true := fun j hj => by
    rw [← lay_append, getD_swap (by rw [lay_size, hsz]; exact hlt j hj)]
    exact lay_in _ _ _ hj (by rw [hsz]; exact hlt j hj)
  have key : ∀ (l : List Nat) (listed : Array Bool) (a : Act), (∀ i ∈ l, i ∈ B) → (∀ i ∈ B, listed.getD i true = false → i ∈ l) → Inv md ops (B ++ L.map (·.1)) base listed → (∀ i ∈ L.map (·.1), listed.getD i true = false) → seqOK md ops l listed = true → lay listed l = lay base B →
      wpQuiet P ops (R w0) (fun a' => wpLoose P ops R w0 (fun a' F => ∀ w', R w0 w' → F w' → wpAny P md ops Q' fuel (lay (lay base B) (L.map (·.1))) a' w') L a' (fun _ => True)) (l.filterMap (ops[·]?)) a →
      wpMix P md ops R w0 B L (fun listed' a' F' => listed' = lay (lay base B) (L.map (·.1)) ∧ ∀ w', R w0 w' → F' w' → wpAny P md ops Q' fuel (lay (lay base B) (L.map (·.1))) a' w') (l.length + L.length) listed a (fun _ => True) := by
    intro l
    induction l with
    | nil =>
      intro listed a _ hall inv _ _ hf h
      have hf : listed = lay base B := hf
      rw [List.length_nil, Nat.zero_add]
      refine wpMix_loose (fun a F F' hFF hq w' hw' hF' => hq w' hw' (hFF w' hF')) hsel' hc hap L.length L listed a _ rfl hnd2.2.1 (fun x hx => ⟨hx, ?_⟩) (fun i hi hun => ?_) inv (by rw [hf]) h
      · have := List.all_eq_true.1 hrd x.1 (List.mem_map_of_mem hx)
        rw [hf]
        simpa using this
      · rcases List.mem_append.1 hi with h1 | h1
        · cases hall i h1 hun
        · exact h1
    | cons i l ih =>
      intro listed a hl' hall inv hLu hsq hf h
      simp only [seqOK, Bool.and_eq_true] at hsq
      obtain ⟨⟨hr, hfr⟩, hB'⟩ := hsq
      have hr' : i ∈ Region.ready md ops listed := by simpa using hr
      obtain ⟨_, o, ho, _⟩ := mem_ready.1 hr'
      have hiB := hl' i List.mem_cons_self
      have hstp : qOp P ops (R w0) i (wpQuiet P ops (R w0) (fun a' => wpLoose P ops R w0 (fun a' F => ∀ w', R w0 w' → F w' → wpAny P md ops Q' fuel (lay (lay base B) (L.map (·.1))) a' w') L a' (fun _ => True)) (l.filterMap (ops[·]?))) a := by
        unfold qOp
        simp only [ho]
        rw [List.filterMap_cons_some ho] at h
        exact h
      obtain ⟨v, hy, hK⟩ := yieldsIn_of_qOp ho hstp
      have := ih (listed.setIfInBounds i true) _ (fun k hk => hl' k (List.mem_cons_of_mem _ hk)) (fun k hk hun => by
        have hne : k ≠ i := by
          rintro rfl
          have hks : k < listed.size := by rw [inv.size]; exact (Array.getElem?_eq_some_iff.1 ho).1
          rw [getD_swap (by simpa using hks), set_self hks] at hun
          cases hun
        rw [getD_set_ne true (Ne.symm hne)] at hun
        rcases List.mem_cons.1 (hall k hk hun) with h1 | h1
        · exact absurd h1 hne
        · exact h1) (inv.set (List.mem_append_left _ hiB) hr') (fun k hk => by
          have hne : i ≠ k := fun e => hnd2.2.2 i hiB k hk e
          rw [getD_set_ne true hne]
          exact hLu k hk) hB' hf hK
      rw [show (i :: l).length + L.length = (l.length + L.length) + 1 by simp only [List.length_cons]; omega]
      exact wpMix_first ho hsel' hc hiB hfin (fun _ _ _ hq => hq.1) _ listed a _ inv (Region.free_spec ho hfr) hr' hy this
  have hLu : ∀ i ∈ L.map (·.1), base.getD i true = false := fun i hi => by
    have h1 : i ∈ Region.ready md ops (lay base B) := by
      have := List.all_eq_true.1 hrd i hi
      simpa using this
    have h2 := (mem_ready.1 h1).1
    rw [lay_out B base i (fun hm => hnd2.2.2 i hm i hi rfl)] at h2
    exact h2
  have hM := key B base a (fun _ h => h) (fun _ h _ => h) (Inv.refl hsz) hLu hseq rfl h
  exact wpAny_of_mix hR hst hc hl hdis (fun listed a' F w' hw' hF hq => by obtain ⟨rfl, h2⟩ := hq; exact h2 w' hw' hF) _ base a _ w (Inv.refl hsz) hw0 trivial (fun _ _ _ h => h) (.inl fun _ => trivial) hM
end

/-! the world grows -/
def GR (w w' : World) : Prop := ∃ p : Grew, w' = grew w p
theorem GR.below {w w' : World} (h : GR w w') : Below w.heap.size w w' := by
  obtain ⟨p, rfl⟩ := h
  exact grew_below w p
theorem GR.of {w w' : World} (h : Below w.heap.size w w') : GR w w' := grew_of h
theorem rely_gr : Rely GR := ⟨fun w => .of (Below.refl _ w), fun {_ _ _} h k => .of (h.below.trans (k.below.mono h.below.size))⟩
theorem stable_gr {T : Value → World → Prop} (h : ∀ v w w', Below w.heap.size w w' → T v w → T v w') : Stable GR T := fun v w w' hr ht => h v w w' hr.below ht
def seqL (md : Region.Mode) (ops : Array Oper) : List Nat → Array Bool → Bool
  | [], listed => (Region.ready md ops listed).isEmpty
  | k :: T, listed => decide (Region.ready md ops listed = [k]) && seqL md ops T (listed.setIfInBounds k true)
theorem wpAny_of_seqL {P : Program} {md : Region.Mode} {ops : Array Oper} {Q' : Exit → Act → World → Prop} : ∀ (T : List Nat) (listed : Array Bool) (a : Act) (w : World), seqL md ops T listed = true → wpList P ops Q' (T.filterMap (ops[·]?)) a w → wpAny P md ops Q' T.length listed a w
  | [], listed, a, w, hB, h => ⟨by simpa [seqL] using hB, h⟩
  | k :: T, listed, a, w, hB, h => by
    simp only [seqL, Bool.and_eq_true, decide_eq_true_eq] at hB
    refine ⟨fun h1 => (by rw [hB.1] at h1; cases h1), fun i hi => ?_⟩
    have hi' := hi
    rw [hB.1] at hi
    have hik : i = k := by simpa using hi
    subst hik
    obtain ⟨_, o, h0, _⟩ := mem_ready.1 hi'
    rw [List.filterMap_cons_some h0] at h
    have hw : wpOp P ops Q' i (wpList P ops Q' (T.filterMap (ops[·]?))) a w := by unfold wpOp; simp only [h0]; exact h
    exact wpOp_mono (fun a' w' h' => wpAny_of_seqL T _ a' w' hB.2 h') hw
/-- A REGION THAT DRAWS ITS ORDER: a batch (B: what reads, and quiet calls; L: what makes memory), then a tail T, in its order. -/
theorem wp_region_mix {P : Program} {id : Nat} {Q : Exit → Act → World → Prop} {a : Act} {w : World} {l : List Oper} (B : List Nat) (L : List Item) (T : List Nat) (hm : P.follows .mixedOrders = true)
    (hB : (B.all (fun i => decide (i < l.length)) && T.all (fun i => decide (i < l.length)) && mixB .any l.toArray (Array.replicate l.length false) B (L.map (·.1)) && decide (B.length + L.length + T.length = l.length) && seqL .any l.toArray T (lay (lay (Array.replicate l.length false) B) (L.map (·.1)))) = true)
    (hst : ∀ x ∈ L, Stable GR x.2)
    (h : wpQuiet P l.toArray (fun w' => ∃ p : Grew, w' = grew w p) (fun a' => wpLoose P l.toArray GR w (fun a'' F => ∀ w', GR w w' → F w' → wpList P l.toArray Q (pick l T) a'' w') L a' (fun _ => True)) (pick l B) a) : (Code.region id l.toArray true).wp P Q a w := by
  simp only [Bool.and_eq_true, decide_eq_true_eq] at hB
  obtain ⟨⟨⟨⟨g1, g2⟩, h1⟩, h2⟩, h3⟩ := hB
  rw [← pick_eq l B g1, ← pick_eq l T g2] at h
  refine wp_region_start hm (wpAny_mix (fuel := T.length) rely_gr (GR.of (Below.refl _ _).drew) B L h1 hst (by omega) ?_)
  have key : ∀ (L0 : List Item) (a : Act) (F : World → Prop), wpLoose P l.toArray GR w (fun a'' F => ∀ w', GR w w' → F w' → wpList P l.toArray Q (T.filterMap (fun i => l.toArray[i]?)) a'' w') L0 a F →
      wpLoose P l.toArray GR w (fun a' F => ∀ w', GR w w' → F w' → wpAny P .any l.toArray Q T.length (lay (lay (Array.replicate l.length false) B) (L.map (·.1))) a' w') L0 a F := by
    intro L0
    induction L0 with
    | nil => intro a F h w' hw hF; exact wpAny_of_seqL T _ a w' h3 (h w' hw hF)
    | cons x L0 ih => intro a F ⟨o, k1, k2, k3, k4⟩; exact ⟨o, k1, k2, k3, fun v => ih _ _ (k4 v)⟩
  have key2 : ∀ (l0 : List Oper) (a : Act), wpQuiet P l.toArray (fun w' => ∃ p : Grew, w' = grew w p) (fun a' => wpLoose P l.toArray GR w (fun a'' F => ∀ w', GR w w' → F w' → wpList P l.toArray Q (T.filterMap (fun i => l.toArray[i]?)) a'' w') L a' (fun _ => True)) l0 a →
      wpQuiet P l.toArray (GR w) (fun a' => wpLoose P l.toArray GR w (fun a' F => ∀ w', GR w w' → F w' → wpAny P .any l.toArray Q T.length (lay (lay (Array.replicate l.length false) B) (L.map (·.1))) a' w') L a' (fun _ => True)) l0 a := by
    intro l0
    induction l0 with
    | nil => intro a h; exact key _ _ _ h
    | cons o l0 ih =>
      intro a h
      unfold wpQuiet at h ⊢
      split
      · rename_i hw
        simp only [hw, if_true] at h
        exact Oper.quiet_mono (fun a => ih a) h
      · rename_i hw
        simp only [hw] at h
        exact ih _ h
  exact key2 _ _ h
end Batch
end Go.Proofs.YtgalhnobckoneaaGreatDoor
