/- As Mix, but the quiet calls may stand beside what makes memory: each call is looked at as a step from the world where it is made. -/
import Derived.Test.YtmbpnkacggngkaaGreatDoorMix
namespace Go.Proofs.YtmbpnkacggngkaaGreatDoor
namespace Batch
open Go.RowKit
section
variable {P : Program} {ops : Array Oper} {md : Region.Mode} {R : World → World → Prop} {w0 : World}

/-- Operation i comes up: one value, whatever the world is; a call leads from its world on. -/
def qR (P : Program) (ops : Array Oper) (R : World → World → Prop) (w0 : World) (i : Nat) (K : Act → Prop) (a : Act) : Prop :=
  match ops[i]? with
  | none => K a
  | some o => if Region.wanted o (yielded ops a.tmps) then ∃ v, (∀ w, R w0 w → o.quietAt P a (R w) w v) ∧ K (a.put o.dst v) else K (a.put o.dst undef)
theorem qR_mono {i : Nat} {a : Act} {K K' : Act → Prop} (h : ∀ a, K a → K' a) (hh : qR P ops R w0 i K a) : qR P ops R w0 i K' a := by
  unfold qR at *
  split
  · exact h _ (by simpa [*] using hh)
  · rename_i o ho
    simp only [ho] at hh
    split
    · rename_i hw
      simp only [hw, if_true] at hh
      obtain ⟨v, h1, h2⟩ := hh
      exact ⟨v, h1, h _ h2⟩
    · rename_i hw; simp only [hw] at hh; exact h _ hh
def YieldsR (P : Program) (ops : Array Oper) (R : World → World → Prop) (w0 : World) (o : Oper) (v : Value) (a : Act) : Prop :=
  (Region.wanted o (yielded ops a.tmps) = true ∧ ∀ w, R w0 w → o.quietAt P a (R w) w v) ∨ (Region.wanted o (yielded ops a.tmps) = false ∧ v = undef)
theorem YieldsR.qR {i : Nat} {o : Oper} {v : Value} {a : Act} (hi : ops[i]? = some o) (hy : YieldsR P ops R w0 o v a) {K : Act → Prop} (h : K (a.put o.dst v)) : qR P ops R w0 i K a := by
  unfold Batch.qR
  simp only [hi]
  rcases hy with ⟨hw, hv⟩ | ⟨hw, rfl⟩
  · simp only [hw, if_true]; exact ⟨v, hv, h⟩
  · simp only [hw, Bool.false_eq_true, if_false]; exact h
theorem YieldsR.of_same {o : Oper} {v : Value} {a a' : Act} (hy : YieldsR P ops R w0 o v a) (he : execOp a'.eval o = execOp a.eval o)
    (hw : Region.wanted o (yielded ops a'.tmps) = Region.wanted o (yielded ops a.tmps)) : YieldsR P ops R w0 o v a' := by
  unfold YieldsR Oper.quietAt at *
  rw [he, hw]
  exact hy
theorem yieldsR_of_qR {i : Nat} {o : Oper} {a : Act} {K : Act → Prop} (hi : ops[i]? = some o) (h : qR P ops R w0 i K a) : ∃ v, YieldsR P ops R w0 o v a ∧ K (a.put o.dst v) := by
  unfold qR at h
  simp only [hi] at h
  by_cases hw : Region.wanted o (yielded ops a.tmps) = true
  · simp only [hw, if_true] at h
    obtain ⟨v, h1, h2⟩ := h
    exact ⟨v, .inl ⟨hw, h1⟩, h2⟩
  · simp only [hw] at h
    exact ⟨undef, .inr ⟨by simpa using hw, rfl⟩, h⟩
theorem qR_put {j : Nat} {oi oj : Oper} {v : Value} (hj : ops[j]? = some oj) (hap : oi.apart ops oj = true)
    (hsi : ∀ cs b, oi.op ≠ .select cs b) (hsj : ∀ cs b, oj.op ≠ .select cs b) {K : Act → Prop} {a : Act}
    (hy : YieldsR P ops R w0 oi v a) (h : qR P ops R w0 j K (a.put oi.dst v)) :
    qR P ops R w0 j (fun a' => YieldsR P ops R w0 oi v a' ∧ K (a'.put oi.dst v)) a := by
  obtain ⟨h1, h2, h3⟩ := Oper.apart_spec hap
  have keep : ∀ (a : Act), YieldsR P ops R w0 oi v a → ∀ u, YieldsR P ops R w0 oi v (a.put oj.dst u) := fun a hy u =>
    hy.of_same (execOp_put oi hsi a oj.dst u h3) (wanted_put oi a oj.dst u h3)
  unfold qR at *
  simp only [hj] at *
  rw [wanted_put oj a oi.dst v h1] at h
  split
  · rename_i hw
    simp only [hw, if_true] at h
    obtain ⟨u, hu, hn⟩ := h
    refine ⟨u, fun w hw' => ?_, keep a hy u, by rw [← Act.put_comm a v u h2]; exact hn⟩
    have := hu w hw'
    unfold Oper.quietAt at *
    rwa [execOp_put oj hsj a oi.dst v h1] at this
  · rename_i hw
    simp only [hw] at h
    exact ⟨keep a hy _, by rw [← Act.put_comm a v undef h2]; exact h⟩
theorem wp_of_quiet1 {P : Program} {o : Oper} {a : Act} {C : World → Prop} {v : Value} {K' : Act → World → Prop} {Q' : Exit → Act → World → Prop} {w : World} (hw : C w) (h3 : o.quietAt P a C w v) (h : ∀ w', C w' → K' (a.put o.dst v) w') : o.wp P a w K' Q' := by
  unfold Oper.quietAt at h3
  unfold Oper.wp
  generalize (execOp a.eval o).run P w = r at *
  cases r with
  | ok n w' =>
    cases n <;> simp only [Oper.quietUpon] at h3 <;> simp only [Oper.upon]
    case value u =>
      obtain ⟨e1, e2⟩ := h3
      rw [e1, e2]
      exact h _ hw
    case skip =>
      obtain ⟨e1, e2⟩ := h3
      rw [e1, ← e2]
      exact h _ hw
    case enter f args =>
      obtain ⟨e1, hc⟩ := h3
      rw [e1]
      exact hc.mono fun e w'' ⟨he, hw''⟩ => by subst he; exact h _ hw''
  | halt x w' => simp only [Oper.quietUpon] at h3
theorem wpOp_of_qR {i : Nat} {a : Act} {K : Act → Prop} {K' : Act → World → Prop} {Q' : Exit → Act → World → Prop} {w : World} (hrf : ∀ w, R w w) (hw : R w0 w) (h : ∀ a w', R w w' → K a → K' a w') (hh : qR P ops R w0 i K a) : wpOp P ops Q' i K' a w := by
  unfold qR at hh
  unfold wpOp
  split
  · rename_i ho; simp only [ho] at hh; exact h _ _ (hrf w) hh
  · rename_i o ho
    simp only [ho] at hh
    split
    · rename_i hwa
      simp only [hwa, if_true] at hh
      obtain ⟨v, h1, h2⟩ := hh
      exact .inl (wp_of_quiet1 (hrf w) (h1 w hw) (fun w' hw' => h _ w' hw' h2))
    · rename_i hwa; simp only [hwa] at hh; exact h _ _ (hrf w) hh
def wpMixR (P : Program) (md : Region.Mode) (ops : Array Oper) (R : World → World → Prop) (w0 : World) (B : List Nat) (L : List Item) (Q : Array Bool → Act → (World → Prop) → Prop) : Nat → Array Bool → Act → (World → Prop) → Prop
  | 0, listed, a, F => Q listed a F
  | f + 1, listed, a, F => Region.ready md ops listed ≠ [] ∧ ∀ i ∈ Region.ready md ops listed,
      (i ∈ B ∧ qR P ops R w0 i (fun a' => wpMixR P md ops R w0 B L Q f (listed.setIfInBounds i true) a' F) a) ∨
      (∃ x ∈ L, x.1 = i ∧ ∃ o, ops[i]? = some o ∧ Region.wanted o (yielded ops a.tmps) = true ∧ (∀ w, R w0 w → gives P R x.2 w ((execOp a.eval o).run P w)) ∧
        ∀ v, wpMixR P md ops R w0 B L Q f (listed.setIfInBounds i true) (a.put o.dst v) (fun w => F w ∧ x.2 v w))
theorem wpAny_of_mixR {B : List Nat} {L : List Item} {g : Nat} {Q : Array Bool → Act → (World → Prop) → Prop} {Q' : Exit → Act → World → Prop} (hR : Rely R) (hst : ∀ x ∈ L, Stable R x.2)
    (hQ : ∀ listed a F w, R w0 w → F w → Q listed a F → wpAny P md ops Q' g listed a w) :
    ∀ (f : Nat) (listed : Array Bool) (a : Act) (F : World → Prop) (w : World), R w0 w → F w → (∀ w w', R w w' → F w → F w') → wpMixR P md ops R w0 B L Q f listed a F → wpAny P md ops Q' (f + g) listed a w := by
  intro f
  induction f with
  | zero =>
    intro listed a F w hw hF _ h
    rw [Nat.zero_add]
    exact hQ _ _ _ _ hw hF h
  | succ f ih =>
    intro listed a F w hw hF hFs h
    rw [show f + 1 + g = (f + g) + 1 by omega]
    refine ⟨fun h0 => absurd h0 h.1, fun i hi => ?_⟩
    rcases h.2 i hi with ⟨_, hq⟩ | ⟨x, hx, rfl, o, ho, hwa, hg, hk⟩
    · exact wpOp_of_qR hR.refl hw (fun a' w' hw' ha' => ih _ a' F w' (hR.trans hw hw') (hFs _ _ hw' hF) hFs ha') hq
    · have step : ∀ v w', R w w' → x.2 v w' → wpAny P md ops Q' (f + g) (listed.setIfInBounds x.1 true) (a.put o.dst v) w' := fun v w' hww hTv =>
        ih _ _ _ w' (hR.trans hw hww) ⟨hFs _ _ hww hF, hTv⟩ (fun w1 w2 h12 h1 => ⟨hFs _ _ h12 h1.1, hst x hx _ _ _ h12 h1.2⟩) (hk v)
      unfold wpOp
      simp only [ho]
      rw [if_pos hwa]
      refine .inl ?_
      have hgw := hg w hw
      unfold Oper.wp
      generalize (execOp a.eval o).run P w = r at *
      cases r with
      | ok m w' =>
        cases m <;> simp only [gives] at hgw <;> simp only [Oper.upon]
        case value u => exact step u w' hgw.1 hgw.2
        case skip => exact step undef w' hgw.1 hgw.2
        case enter f' args =>
          obtain ⟨rfl, hcall⟩ := hgw
          exact hcall.mono fun e w'' ⟨v, he, h1, h2⟩ => by subst he; exact step v w'' h1 h2
      | halt q w' => simp only [gives] at hgw
theorem wpMixR_first {B : List Nat} {L : List Item} {Q : Array Bool → Act → (World → Prop) → Prop} {base fin : Array Bool} {i : Nat} {oi : Oper} {v : Value} (hi : ops[i]? = some oi) (hsel : ∀ (j : Nat) (o : Oper) cs b, ops[j]? = some o → o.op ≠ .select cs b)
    (hc : closedB md ops base (B ++ L.map (·.1)) = true) (hiB : i ∈ B) (hfin : ∀ j ∈ B ++ L.map (·.1), fin.getD j true = true) (hQ : ∀ listed a F, Q listed a F → listed = fin) :
    ∀ (f : Nat) (listed : Array Bool) (a : Act) (F : World → Prop), Inv md ops (B ++ L.map (·.1)) base listed →
      (∀ j oj, ops[j]? = some oj → j ≠ i → listed.getD j true = false → (∀ e ∈ oj.after, Region.binds md e = true → e.on ≠ i) → oi.apart ops oj = true) →
      i ∈ Region.ready md ops listed → YieldsR P ops R w0 oi v a →
      wpMixR P md ops R w0 B L Q f (listed.setIfInBounds i true) (a.put oi.dst v) F → wpMixR P md ops R w0 B L Q (f + 1) listed a F := by
  intro f
  induction f with
  | zero =>
    intro listed a F inv _ hr hy H
    have hun := (mem_ready.1 hr).1
    refine ⟨fun h => (by rw [h] at hr; cases hr), fun j hj => ?_⟩
    have hjB := inv.stays hc (List.mem_append_left _ hiB) hun hj
    by_cases hji : j = i
    · subst hji; exact .inl ⟨hiB, hy.qR hi H⟩
    · exfalso
      have h1 := ready_mono hj hji
      rw [hQ _ _ _ H] at h1
      have h2 := (mem_ready.1 h1).1
      rw [hfin j hjB] at h2
      cases h2
  | succ f ih =>
    intro listed a F inv hfree hr hy H
    have hun := (mem_ready.1 hr).1
    refine ⟨fun h => (by rw [h] at hr; cases hr), fun j hj => ?_⟩
    have hjB := inv.stays hc (List.mem_append_left _ hiB) hun hj
    by_cases hji : j = i
    · subst hji; exact .inl ⟨hiB, hy.qR hi H⟩
    · have h1 := H.2 j (ready_mono hj hji)
      obtain ⟨hjun, oj, hoj, hall⟩ := mem_ready.1 hj
      have hnot : ∀ e ∈ oj.after, Region.binds md e = true → e.on ≠ i := fun e he hb heq => by
        have h1 := hall e he hb
        rw [heq, getD_both hun] at h1
        cases h1
      have hap := hfree j oj hoj hji hjun hnot
      have hfree' : ∀ k ok, ops[k]? = some ok → k ≠ i → (listed.setIfInBounds j true).getD k true = false →
          (∀ e ∈ ok.after, Region.binds md e = true → e.on ≠ i) → oi.apart ops ok = true := fun k ok hk hki hun hno => by
        refine hfree k ok hk hki ?_ hno
        by_cases hjk : j = k
        · subst hjk; exact hjun
        · rw [getD_set_ne true hjk] at hun; exact hun
      rcases h1 with ⟨hjB', h1⟩ | ⟨x, hx, hxj, o, ho, hwa, hg, hk⟩
      · refine .inl ⟨hjB', ?_⟩
        have h2 := qR_put hoj hap (fun cs b => hsel i oi cs b hi) (fun cs b => hsel j oj cs b hoj) hy h1
        refine qR_mono (fun a' h3 => ih (listed.setIfInBounds j true) a' F (inv.set hjB hj) hfree' (ready_mono hr (Ne.symm hji)) h3.1 ?_) h2
        rw [Array.setIfInBounds_comm _ _ hji]
        exact h3.2
      · have : o = oj := Option.some.inj (ho.symm.trans hoj)
        subst this
        obtain ⟨g1, g2, g3⟩ := Oper.apart_spec hap
        refine .inr ⟨x, hx, hxj, o, ho, ?_, fun w hw => ?_, fun u => ?_⟩
        · rw [wanted_put o a oi.dst v g1] at hwa
          exact hwa
        · have := hg w hw
          rw [execOp_put o (fun cs b => hsel j o cs b ho) a oi.dst v g1] at this
          exact this
        · refine ih (listed.setIfInBounds j true) (a.put o.dst u) _ (inv.set hjB hj) hfree' (ready_mono hr (Ne.symm hji)) (hy.of_same (execOp_put oi (fun cs b => hsel i oi cs b hi) a o.dst u g3) (wanted_put oi a o.dst u g3)) ?_
          rw [Array.setIfInBounds_comm _ _ hji, ← Act.put_comm a v u g2]
          exact hk u

theorem wpMixR_loose {B : List Nat} {L0 : List Item} {Qf : Act → (World → Prop) → Prop} {base fin : Array Bool} (hQf : ∀ a F F', (∀ w, F' w → F w) → Qf a F → Qf a F') (hsel : ∀ (j : Nat) (o : Oper) cs b, ops[j]? = some o → o.op ≠ .select cs b) (hc : closedB md ops base (B ++ L0.map (·.1)) = true) (hap : apartB ops (L0.map (·.1)) = true) :
    ∀ (n : Nat) (L : List Item) (listed : Array Bool) (a : Act) (F : World → Prop), L.length = n → (L.map (·.1)).Nodup → (∀ x ∈ L, x ∈ L0 ∧ x.1 ∈ Region.ready md ops listed) →
      (∀ i ∈ B ++ L0.map (·.1), listed.getD i true = false → i ∈ L.map (·.1)) → Inv md ops (B ++ L0.map (·.1)) base listed → lay listed (L.map (·.1)) = fin →
      wpLoose P ops R w0 Qf L a F → wpMixR P md ops R w0 B L0 (fun listed' a' F' => listed' = fin ∧ Qf a' F') n listed a F := by
  intro n
  induction n with
  | zero =>
    intro L listed a F hn _ _ _ _ hf h
    have : L = [] := List.length_eq_zero_iff.1 hn
    subst this
    exact ⟨hf, h⟩
  | succ n ih =>
    intro L listed a F hn hnd hL hall inv hf h
    obtain ⟨x0, L1, rfl⟩ : ∃ x L1, L = x :: L1 := by
      cases L with
      | nil => cases hn
      | cons x L1 => exact ⟨x, L1, rfl⟩
    have hx0 := hL x0 List.mem_cons_self
    refine ⟨fun h0 => (by have := hx0.2; rw [h0] at this; cases this), fun j hj => ?_⟩
    have hjB : j ∈ B ++ L0.map (·.1) := inv.stays hc (List.mem_append_right _ (List.mem_map_of_mem hx0.1)) (mem_ready.1 hx0.2).1 hj
    have hjL := hall j hjB (mem_ready.1 hj).1
    obtain ⟨⟨j', T⟩, hmem, hje⟩ := List.mem_map.1 hjL
    have hje : j' = j := hje
    subst hje
    obtain ⟨B1, B2, hsplit⟩ := List.append_of_mem hmem
    rw [hsplit] at h hnd hf
    have hnd' := hnd
    simp only [List.map_append, List.map_cons] at hnd' hf
    have hne1 : ∀ y ∈ B1, y.1 ≠ j' := fun y hy e => by
      rw [List.nodup_append] at hnd'
      exact hnd'.2.2 y.1 (List.mem_map_of_mem hy) j' (List.mem_cons_self) e
    have hne2 : ∀ y ∈ B2, y.1 ≠ j' := fun y hy e => by
      rw [List.nodup_append] at hnd'
      exact (List.nodup_cons.1 hnd'.2.1).1 (by rw [← e]; exact List.mem_map_of_mem hy)
    have hin12 : ∀ y ∈ B1 ++ B2, y ∈ x0 :: L1 ∧ y.1 ≠ j' := fun y hy => by
      rcases List.mem_append.1 hy with h1 | h1
      · exact ⟨by rw [hsplit]; exact List.mem_append_left _ h1, hne1 y h1⟩
      · exact ⟨by rw [hsplit]; exact List.mem_append_right _ (List.mem_cons_of_mem _ h1), hne2 y h1⟩
    have hj0 : j' ∈ L0.map (·.1) := List.mem_map_of_mem (f := (·.1)) (hL _ hmem).1
    obtain ⟨o, k1, k2, k3, k4⟩ := wpLoose_pull hQf hsel hap hj0 B1 a F (fun y hy => ⟨List.mem_map_of_mem (hL y (by rw [hsplit]; exact List.mem_append_left _ hy)).1, hne1 y hy⟩) h
    refine .inr ⟨(j', T), (hL _ hmem).1, rfl, o, k1, k2, k3, fun v => ?_⟩
    refine ih (B1 ++ B2) (listed.setIfInBounds j' true) (a.put o.dst v) _ ?_ ?_ ?_ ?_ (inv.set hjB hj) ?_ (k4 v)
    · rw [hsplit] at hn
      simp only [List.length_append, List.length_cons] at hn ⊢
      omega
    · simp only [List.map_append]
      rw [List.nodup_append] at hnd' ⊢
      exact ⟨hnd'.1, (List.nodup_cons.1 hnd'.2.1).2, fun p hp q hq => hnd'.2.2 p hp q (List.mem_cons_of_mem _ hq)⟩
    · intro y hy
      obtain ⟨h1, h2⟩ := hin12 y hy
      exact ⟨(hL y h1).1, ready_mono (hL y h1).2 h2⟩
    · intro i hi hun
      have hij : i ≠ j' := by
        rintro rfl
        have hjs : i < listed.size := by
          obtain ⟨o', ho', _⟩ := (mem_ready.1 hj).2
          rw [inv.size]
          exact (Array.getElem?_eq_some_iff.1 ho').1
        rw [getD_swap (by simpa using hjs), set_self hjs] at hun
        cases hun
      rw [getD_set_ne true (Ne.symm hij)] at hun
      have h1 := hall i hi hun
      rw [hsplit] at h1
      simp only [List.map_append, List.map_cons, List.mem_append, List.mem_cons] at h1 ⊢
      rcases h1 with h1 | h1 | h1
      · exact .inl h1
      · exact absurd h1 hij
      · exact .inr h1
    · rw [← hf]
      simp only [List.map_append]
      have hcomm : ∀ (l1 : List Nat) (l2 : List Nat) (s : Array Bool), j' ∉ l1 → lay (s.setIfInBounds j' true) (l1 ++ l2) = lay s (l1 ++ j' :: l2) := by
        intro l1
        induction l1 with
        | nil => intro l2 s _; rfl
        | cons p l1 ihl =>
          intro l2 s hp
          have hpj : p ≠ j' := fun e => hp (by rw [e]; exact List.mem_cons_self)
          show lay ((s.setIfInBounds j' true).setIfInBounds p true) (l1 ++ l2) = lay (s.setIfInBounds p true) (l1 ++ j' :: l2)
          rw [← Array.setIfInBounds_comm _ _ hpj]
          exact ihl l2 _ (fun hm => hp (List.mem_cons_of_mem _ hm))
      refine hcomm _ _ _ (fun hm => ?_)
      obtain ⟨y, hy, hye⟩ := List.mem_map.1 hm
      exact hne1 y hy hye

def wpR (P : Program) (ops : Array Oper) (R : World → World → Prop) (w0 : World) (Q : Act → Prop) : List Nat → Act → Prop
  | [], a => Q a
  | i :: l, a => qR P ops R w0 i (wpR P ops R w0 Q l) a
theorem wpR_calm {Q : Act → Prop} : ∀ (B : List Nat) (a : Act), B.all (calmAt ops) = true → wpQuiet P ops (R w0) Q (B.filterMap (ops[·]?)) a → wpR P ops R w0 Q B a
  | [], _, _, h => h
  | i :: B, a, hc, h => by
    simp only [List.all_cons, Bool.and_eq_true] at hc
    obtain ⟨hc1, hc2⟩ := hc
    unfold calmAt at hc1
    cases ho : ops[i]? with
    | none => rw [ho] at hc1; cases hc1
    | some o =>
      rw [ho] at hc1
      rw [List.filterMap_cons_some ho] at h
      unfold wpQuiet at h
      unfold wpR qR
      simp only [ho]
      split
      · rename_i hw
        simp only [hw, if_true] at h
        obtain ⟨v, h1, h2⟩ := h
        refine ⟨v, fun w hw0 => ?_, wpR_calm B _ hc2 h2⟩
        have h3 := h1 w hw0
        unfold Oper.quietAt at h3 ⊢
        cases hr : (execOp a.eval o).run P w with
        | halt q w' => rw [hr] at h3; exact h3.elim
        | ok n w' =>
          obtain ⟨u, rfl⟩ := calm_value hc1 a.eval w w' n hr
          rw [hr] at h3
          exact h3
      · rename_i hw
        simp only [hw] at h
        exact wpR_calm B _ hc2 h
theorem wpR_append {Q : Act → Prop} : ∀ (l1 l2 : List Nat) (a : Act), wpR P ops R w0 (fun a' => wpR P ops R w0 Q l2 a') l1 a → wpR P ops R w0 Q (l1 ++ l2) a
  | [], _, _, h => h
  | _ :: l1, l2, _, h => qR_mono (fun a' h' => wpR_append l1 l2 a' h') h
/-- Reads, then a call, and so on. -/
def wpSegs (P : Program) (ops : Array Oper) (R : World → World → Prop) (w0 : World) (Q : Act → Prop) : List (List Nat × Nat) → Act → Prop
  | [], a => Q a
  | x :: rest, a => wpQuiet P ops (R w0) (fun a' => ∃ o, ops[x.2]? = some o ∧ Region.wanted o (yielded ops a'.tmps) = true ∧ ∃ v, (∀ w, R w0 w → o.quietAt P a' (R w) w v) ∧ wpSegs P ops R w0 Q rest (a'.put o.dst v)) (x.1.filterMap (ops[·]?)) a
def flat : List (List Nat × Nat) → List Nat
  | [] => []
  | x :: rest => (x.1 ++ [x.2]) ++ flat rest
theorem wpR_segs {Q : Act → Prop} : ∀ (S : List (List Nat × Nat)) (a : Act), S.all (fun x => x.1.all (calmAt ops)) = true → wpSegs P ops R w0 Q S a → wpR P ops R w0 Q (flat S) a
  | [], _, _, h => h
  | x :: S, a, hc, h => by
    simp only [List.all_cons, Bool.and_eq_true] at hc
    unfold flat
    rw [List.append_assoc]
    refine wpR_append _ _ _ (wpR_calm x.1 a hc.1 ?_)
    unfold wpSegs at h
    have key : ∀ (l : List Oper) (a : Act), wpQuiet P ops (R w0) (fun a' => ∃ o, ops[x.2]? = some o ∧ Region.wanted o (yielded ops a'.tmps) = true ∧ ∃ v, (∀ w, R w0 w → o.quietAt P a' (R w) w v) ∧ wpSegs P ops R w0 Q S (a'.put o.dst v)) l a →
        wpQuiet P ops (R w0) (fun a' => wpR P ops R w0 Q ([x.2] ++ flat S) a') l a := by
      intro l
      induction l with
      | nil =>
        rintro a ⟨o, ho, hw, v, h1, h2⟩
        show qR P ops R w0 x.2 _ a
        unfold qR
        simp only [ho, hw, if_true]
        exact ⟨v, h1, wpR_segs S _ hc.2 h2⟩
      | cons o l ih =>
        intro a h
        unfold wpQuiet at h ⊢
        split
        · rename_i hw
          simp only [hw, if_true] at h
          exact Oper.quiet_mono (fun a => ih a) h
        · rename_i hw
          simp only [hw] at h
          exact ih _ h
    exact key _ _ h
def mixRB (md : Region.Mode) (ops : Array Oper) (base : Array Bool) (B L : List Nat) : Bool :=
  Region.noSelect ops && decide (base.size = ops.size) && closedB md ops base (B ++ L) && seqOK md ops B base && apartB ops L && decide (B ++ L).Nodup && L.all fun i => (Region.ready md ops (lay base B)).contains i
theorem wpAny_mixR {Q' : Exit → Act → World → Prop} {a : Act} {w : World} {base : Array Bool} {N fuel : Nat} (hR : Rely R) (hw0 : R w0 w) (B : List Nat) (L : List Item) (hB : mixRB md ops base B (L.map (·.1)) = true) (hst : ∀ x ∈ L, Stable R x.2) (hN : N = B.length + L.length + fuel)
    (h : wpR P ops R w0 (fun a' => wpLoose P ops R w0 (fun a' F => ∀ w', R w0 w' → F w' → wpAny P md ops Q' fuel (lay (lay base B) (L.map (·.1))) a' w') L a' (fun _ => True)) B a) : wpAny P md ops Q' N base a w := by
  simp only [mixRB, Bool.and_eq_true, decide_eq_true_eq] at hB
  obtain ⟨⟨⟨⟨⟨⟨hsel, hsz⟩, hc⟩, hseq⟩, hap⟩, hnd⟩, hrd⟩ := hB
  subst hN
  have hsel' := Region.noSelect_spec hsel
  have hnd2 := hnd
  rw [List.nodup_append] at hnd2
  have htopo : topo md ops (B ++ L.map (·.1)) base = true := by
    simp only [closedB, Bool.and_eq_true] at hc
    exact hc.1
  have hlt := topo_lt _ _ htopo
  have hfin : ∀ j ∈ B ++ L.map (·.1), (lay (lay base B) (L.map (·.1))).getD j true = true := fun j hj => by
    rw [← lay_append, getD_swap (by rw [lay_size, hsz]; exact hlt j hj)]
    exact lay_in _ _ _ hj (by rw [hsz]; exact hlt j hj)
  have key : ∀ (l : List Nat) (listed : Array Bool) (a : Act), (∀ i ∈ l, i ∈ B) → (∀ i ∈ B, listed.getD i true = false → i ∈ l) → Inv md ops (B ++ L.map (·.1)) base listed → seqOK md ops l listed = true → lay listed l = lay base B →
      wpR P ops R w0 (fun a' => wpLoose P ops R w0 (fun a' F => ∀ w', R w0 w' → F w' → wpAny P md ops Q' fuel (lay (lay base B) (L.map (·.1))) a' w') L a' (fun _ => True)) l a →
      wpMixR P md ops R w0 B L (fun listed' a' F' => listed' = lay (lay base B) (L.map (·.1)) ∧ ∀ w', R w0 w' → F' w' → wpAny P md ops Q' fuel (lay (lay base B) (L.map (·.1))) a' w') (l.length + L.length) listed a (fun _ => True) := by
    intro l
    induction l with
    | nil =>
      intro listed a _ hall inv _ hf h
      have hf : listed = lay base B := hf
      rw [List.length_nil, Nat.zero_add]
      refine wpMixR_loose (fun a F F' hFF hq w' hw' hF' => hq w' hw' (hFF w' hF')) hsel' hc hap L.length L listed a _ rfl hnd2.2.1 (fun x hx => ⟨hx, ?_⟩) (fun i hi hun => ?_) inv (by rw [hf]) h
      · have := List.all_eq_true.1 hrd x.1 (List.mem_map_of_mem hx)
        rw [hf]
        simpa using this
      · rcases List.mem_append.1 hi with h1 | h1
        · cases hall i h1 hun
        · exact h1
    | cons i l ih =>
      intro listed a hl' hall inv hsq hf h
      simp only [seqOK, Bool.and_eq_true] at hsq
      obtain ⟨⟨hr, hfr⟩, hB'⟩ := hsq
      have hr' : i ∈ Region.ready md ops listed := by simpa using hr
      obtain ⟨_, o, ho, _⟩ := mem_ready.1 hr'
      have hiB := hl' i List.mem_cons_self
      obtain ⟨v, hy, hK⟩ := yieldsR_of_qR ho h
      have := ih (listed.setIfInBounds i true) _ (fun k hk => hl' k (List.mem_cons_of_mem _ hk)) (fun k hk hun => by
        have hne : k ≠ i := by
          rintro rfl
          have hks : k < listed.size := by rw [inv.size]; exact (Array.getElem?_eq_some_iff.1 ho).1
          rw [getD_swap (by simpa using hks), set_self hks] at hun
          cases hun
        rw [getD_set_ne true (Ne.symm hne)] at hun
        rcases List.mem_cons.1 (hall k hk hun) with h1 | h1
        · exact absurd h1 hne
        · exact h1) (inv.set (List.mem_append_left _ hiB) hr') hB' hf hK
      rw [show (i :: l).length + L.length = (l.length + L.length) + 1 by simp only [List.length_cons]; omega]
      exact wpMixR_first ho hsel' hc hiB hfin (fun _ _ _ hq => hq.1) _ listed a _ inv (Region.free_spec ho hfr) hr' hy this
  have hM := key B base a (fun _ h => h) (fun _ h _ => h) (Inv.refl hsz) hseq rfl h
  exact wpAny_of_mixR hR hst (fun listed a' F w' hw' hF hq => by obtain ⟨rfl, h2⟩ := hq; exact h2 w' hw' hF) _ base a _ w hw0 trivial (fun _ _ _ h => h) hM
end

/-! the world grows -/
/-- Reads, then a call, and so on, in a world that grows. -/
def segs (P : Program) (l : List Oper) (w : World) (Q : Act → Prop) : List (List Nat × Nat) → Act → Prop
  | [], a => Q a
  | x :: rest, a => wpQuiet P l.toArray (fun w' => ∃ p : Grew, w' = grew w p) (fun a' => Region.wanted (l.getD x.2 default) (yielded l.toArray a'.tmps) = true ∧
      ∃ v, (∀ p : Grew, (l.getD x.2 default).quietAt P a' (fun w'' => ∃ q : Grew, w'' = grew (grew w p) q) (grew w p) v) ∧ segs P l w Q rest (a'.put (l.getD x.2 default).dst v)) (pick l x.1) a
theorem segs_call {P : Program} {o : Oper} {a : Act} {w : World} {W : Prop} {K0 : Act → Prop} (hw : W) (h : ∀ K : Act → Prop, (∀ a, K0 a → K a) → ∃ v, (∀ p : Grew, o.quietAt P a (fun w'' => ∃ q : Grew, w'' = grew (grew w p) q) (grew w p) v) ∧ K (a.put o.dst v)) :
    W ∧ ∃ v, (∀ p : Grew, o.quietAt P a (fun w'' => ∃ q : Grew, w'' = grew (grew w p) q) (grew w p) v) ∧ K0 (a.put o.dst v) := ⟨hw, h _ fun _ h => h⟩
theorem calls_grew1 {P : Program} {f : FuncId} {args : Array Value} {W : World} {v : Value} (h : Calls P f args W fun e w' => e = .returned v ∧ Below W.heap.size W w') : Calls P f args W fun e w' => e = .returned v ∧ ∃ q : Grew, w' = grew W q :=
  h.mono fun _ _ ⟨he, hb⟩ => ⟨he, grew_of hb⟩
/-- A REGION THAT DRAWS ITS ORDER: S: reads and quiet calls, by turns; Bl: reads; L: what makes memory; then a tail T, in its order. -/
theorem wp_region_segs {P : Program} {id : Nat} {Q : Exit → Act → World → Prop} {a : Act} {w : World} {l : List Oper} (S : List (List Nat × Nat)) (Bl : List Nat) (L : List Item) (T : List Nat) (hm : P.follows .mixedOrders = true)
    (hB : ((flat S ++ Bl).all (fun i => decide (i < l.length)) && T.all (fun i => decide (i < l.length)) && S.all (fun x => x.1.all (calmAt l.toArray)) && Bl.all (calmAt l.toArray) && mixRB .any l.toArray (Array.replicate l.length false) (flat S ++ Bl) (L.map (·.1)) && decide ((flat S ++ Bl).length + L.length + T.length = l.length) && seqL .any l.toArray T (lay (lay (Array.replicate l.length false) (flat S ++ Bl)) (L.map (·.1)))) = true)
    (hst : ∀ x ∈ L, Stable GR x.2)
    (h : segs P l w (fun a1 => wpQuiet P l.toArray (fun w' => ∃ p : Grew, w' = grew w p) (fun a' => wpLoose P l.toArray GR w (fun a'' F => ∀ w', GR w w' → F w' → wpList P l.toArray Q (pick l T) a'' w') L a' (fun _ => True)) (pick l Bl) a1) S a) : (Code.region id l.toArray true).wp P Q a w := by
  simp only [Bool.and_eq_true, decide_eq_true_eq] at hB
  obtain ⟨⟨⟨⟨⟨⟨g1, g2⟩, g3⟩, g4⟩, h1⟩, h2⟩, h3⟩ := hB
  have gB : Bl.all (fun i => decide (i < l.length)) = true := by
    rw [List.all_append, Bool.and_eq_true] at g1
    exact g1.2
  have gS : (flat S).all (fun i => decide (i < l.length)) = true := by
    rw [List.all_append, Bool.and_eq_true] at g1
    exact g1.1
  refine wp_region_start hm (wpAny_mixR (fuel := T.length) rely_gr (GR.of (Below.refl _ _).drew) (flat S ++ Bl) L h1 hst (by omega) ?_)
  have key : ∀ (L0 : List Item) (a : Act) (F : World → Prop), wpLoose P l.toArray GR w (fun a'' F => ∀ w', GR w w' → F w' → wpList P l.toArray Q (pick l T) a'' w') L0 a F →
      wpLoose P l.toArray GR w (fun a' F => ∀ w', GR w w' → F w' → wpAny P .any l.toArray Q T.length (lay (lay (Array.replicate l.length false) (flat S ++ Bl)) (L.map (·.1))) a' w') L0 a F := by
    intro L0
    induction L0 with
    | nil => intro a F h w' hw hF; exact wpAny_of_seqL T _ a w' h3 (by rw [pick_eq l T g2]; exact h w' hw hF)
    | cons x L0 ih => intro a F ⟨o, k1, k2, k3, k4⟩; exact ⟨o, k1, k2, k3, fun v => ih _ _ (k4 v)⟩
  have key2 : ∀ (l0 : List Oper) (a : Act) (K K' : Act → Prop), (∀ a, K a → K' a) → wpQuiet P l.toArray (fun w' => ∃ p : Grew, w' = grew w p) K l0 a → wpQuiet P l.toArray (GR w) K' l0 a := by
    intro l0
    induction l0 with
    | nil => intro a K K' hK h; exact hK _ h
    | cons o l0 ih =>
      intro a K K' hK h
      unfold wpQuiet at h ⊢
      split
      · rename_i hw
        simp only [hw, if_true] at h
        exact Oper.quiet_mono (fun a => ih a K K' hK) h
      · rename_i hw
        simp only [hw] at h
        exact ih _ K K' hK h
  refine wpR_append _ _ a ?_
  have key3 : ∀ (S0 : List (List Nat × Nat)) (a : Act), (flat S0).all (fun i => decide (i < l.length)) = true → S0.all (fun x => x.1.all (calmAt l.toArray)) = true →
      segs P l w (fun a1 => wpQuiet P l.toArray (fun w' => ∃ p : Grew, w' = grew w p) (fun a' => wpLoose P l.toArray GR w (fun a'' F => ∀ w', GR w w' → F w' → wpList P l.toArray Q (pick l T) a'' w') L a' (fun _ => True)) (pick l Bl) a1) S0 a →
      wpSegs P l.toArray GR w (fun a' => wpR P l.toArray GR w (fun a' => wpLoose P l.toArray GR w (fun a' F => ∀ w', GR w w' → F w' → wpAny P .any l.toArray Q T.length (lay (lay (Array.replicate l.length false) (flat S ++ Bl)) (L.map (·.1))) a' w') L a' (fun _ => True)) Bl a') S0 a := by
    intro S0
    induction S0 with
    | nil =>
      intro a _ _ h
      refine wpR_calm Bl a g4 ?_
      rw [pick_eq l Bl gB]
      exact key2 _ a _ _ (fun a h => key _ _ _ h) h
    | cons x S0 ih =>
      intro a hl hc h
      unfold flat at hl
      rw [List.all_append, List.all_append, Bool.and_eq_true, Bool.and_eq_true] at hl
      obtain ⟨⟨hl1, hl2⟩, hl3⟩ := hl
      simp only [List.all_cons, Bool.and_eq_true] at hc
      have hx2 : x.2 < l.length := by simpa using hl2
      unfold segs at h
      unfold wpSegs
      rw [pick_eq l x.1 hl1]
      refine key2 _ a _ _ (fun a' ⟨hw, v, hv, hk⟩ => ⟨l.getD x.2 default, by simp [hx2], hw, v, fun w1 hw1 => ?_, ih _ hl3 hc.2 hk⟩) h
      obtain ⟨p, rfl⟩ := hw1
      exact hv p
  exact wpR_segs S a g3 (key3 S a gS g3 h)
end Batch
end Go.Proofs.YtmbpnkacggngkaaGreatDoor
