/- REGIONS THAT DRAW THEIR ORDER, met in batches: operations that give one value in every world of a class, and calls that make memory of their own, each looked at once. No program is named. -/
import Derived.WalkKit
import Derived.Deep.Quiet
import Derived.StillTail
import Derived.Below
namespace Go.Proofs.YtgalhnobckoneaaGreatDoor
namespace Batch
open Go.RowKit

/-- All of these are listed. -/
def lay (listed : Array Bool) (B : List Nat) : Array Bool := B.foldl (fun l i => l.setIfInBounds i true) listed
theorem lay_size : ∀ (B : List Nat) (listed : Array Bool), (lay listed B).size = listed.size
  | [], _ => rfl
  | i :: B, listed => by
    show (lay (listed.setIfInBounds i true) B).size = _
    rw [lay_size B]
    simp
theorem lay_keep : ∀ (B : List Nat) (listed : Array Bool) (j : Nat), listed.getD j false = true → (lay listed B).getD j false = true
  | [], _, _, h => h
  | _ :: B, _, j, h => lay_keep B _ j (getD_set_true h)
theorem lay_out : ∀ (B : List Nat) (listed : Array Bool) (j : Nat), j ∉ B → (lay listed B).getD j true = listed.getD j true
  | [], _, _, _ => rfl
  | i :: B, listed, j, h => by
    show (lay (listed.setIfInBounds i true) B).getD j true = _
    rw [lay_out B _ j (fun hm => h (List.mem_cons_of_mem _ hm)), getD_set_ne true (fun e => h (by rw [e]; exact List.mem_cons_self))]
theorem set_self {listed : Array Bool} {i : Nat} (h : i < listed.size) : (listed.setIfInBounds i true).getD i false = true := by simp [h]
theorem lay_in : ∀ (B : List Nat) (listed : Array Bool) (j : Nat), j ∈ B → j < listed.size → (lay listed B).getD j false = true
  | [], _, _, h, _ => by cases h
  | i :: B, listed, j, h, hj => by
    rcases List.mem_cons.1 h with rfl | h
    · exact lay_keep B _ j (set_self hj)
    · exact lay_in B _ j h (by simpa using hj)
theorem getD_swap {listed : Array Bool} {j : Nat} (hj : j < listed.size) (d : Bool) : listed.getD j d = listed.getD j false := by
  simp [hj]

section
variable {P : Program} {ops : Array Oper} {md : Region.Mode} {C : World → Prop}

def depsOK (md : Region.Mode) (ops : Array Oper) (l : Array Bool) (j : Nat) : Bool :=
  match ops[j]? with
  | some o => o.after.all fun e => !Region.binds md e || l.getD e.on false
  | none => false
/-- What can be listed without i. -/
def without (md : Region.Mode) (ops : Array Oper) (i : Nat) : List Nat → Array Bool → Array Bool
  | [], l => l
  | j :: B, l => without md ops i B (if j != i && depsOK md ops l j then l.setIfInBounds j true else l)
def topo (md : Region.Mode) (ops : Array Oper) : List Nat → Array Bool → Bool
  | [], _ => true
  | j :: B, l => depsOK md ops l j && topo md ops B (l.setIfInBounds j true)
/-- Nothing else comes up ahead of all of these. -/
def closedB (md : Region.Mode) (ops : Array Oper) (base : Array Bool) (B : List Nat) : Bool :=
  topo md ops B base && B.all fun i => (Region.ready md ops (without md ops i B base)).all fun j => B.contains j
theorem depsOK_iff {l : Array Bool} {j : Nat} : depsOK md ops l j = true ↔ ∃ o, ops[j]? = some o ∧ ∀ e ∈ o.after, Region.binds md e = true → l.getD e.on false = true := by
  unfold depsOK
  cases ho : ops[j]? with
  | none => simp
  | some o =>
    simp only [Array.all_eq_true_iff_forall_mem, Bool.or_eq_true, Bool.not_eq_true', Option.some.injEq, exists_eq_left']
    constructor
    · intro h e he hb
      exact (h e he).resolve_left (by simp [hb])
    · intro h e he
      cases hb : Region.binds md e
      · exact .inl rfl
      · exact .inr (h e he hb)
theorem without_out (i : Nat) : ∀ (B : List Nat) (l : Array Bool) (j : Nat), j ∉ B → (without md ops i B l).getD j true = l.getD j true
  | [], _, _, _ => rfl
  | k :: B, l, j, h => by
    unfold without
    rw [without_out i B _ j (fun hm => h (List.mem_cons_of_mem _ hm))]
    split
    · exact getD_set_ne true (fun e => h (by rw [e]; exact List.mem_cons_self))
    · rfl
theorem without_keep (i : Nat) : ∀ (B : List Nat) (l : Array Bool) (j : Nat), l.getD j false = true → (without md ops i B l).getD j false = true
  | [], _, _, h => h
  | k :: B, l, j, h => by
    unfold without
    refine without_keep i B _ j ?_
    split
    · exact getD_set_true h
    · exact h
theorem if_keep {l : Array Bool} {k j : Nat} (b : Bool) (h : l.getD j false = true) : (if b = true then l.setIfInBounds k true else l).getD j false = true := by
  cases b
  · exact h
  · exact getD_set_true h
theorem without_ge {listed base : Array Bool} {i : Nat} (hi : listed.getD i false = false) (hcl : ∀ j oj, ops[j]? = some oj → listed.getD j false = true → base.getD j false = false → ∀ e ∈ oj.after, Region.binds md e = true → listed.getD e.on false = true) :
    ∀ (B : List Nat) (l acc : Array Bool), (∀ j ∈ B, j < l.size) → topo md ops B acc = true → (∀ j, base.getD j false = true → acc.getD j false = true) → (∀ j, acc.getD j false = true → listed.getD j false = true → l.getD j false = true) →
      ∀ j, (lay acc B).getD j false = true → listed.getD j false = true → (without md ops i B l).getD j false = true
  | [], _, _, _, _, _, h, j, h1, h2 => h j h1 h2
  | k :: B, l, acc, hs, ht, hb, h, j, h1, h2 => by
    simp only [topo, Bool.and_eq_true] at ht
    obtain ⟨ht1, ht2⟩ := ht
    have hk := hs k List.mem_cons_self
    unfold without
    refine without_ge hi hcl B _ (acc.setIfInBounds k true) (fun j hj => ?_) ht2 (fun j hj => getD_set_true (hb j hj)) (fun j hj hl => ?_) j h1 h2
    · have := hs j (List.mem_cons_of_mem _ hj)
      split
      · simpa using this
      · exact this
    · by_cases hjk : k = j
      · subst hjk
        by_cases hbk : base.getD k false = true
        · have h3 := h k (hb k hbk) hl
          exact if_keep _ h3
        · have hne : k ≠ i := fun e => by rw [e, hi] at hl; cases hl
          obtain ⟨o, ho, hd⟩ := depsOK_iff.1 ht1
          have hd2 : depsOK md ops l k = true := depsOK_iff.2 ⟨o, ho, fun e he hbd => h e.on (hd e he hbd) (hcl k o ho hl (by simpa using hbk) e he hbd)⟩
          rw [if_pos (by rw [hd2]; simpa using hne)]
          simp [hk]
      · rw [getD_set_ne false hjk] at hj
        have h3 := h j hj hl
        exact if_keep _ h3
def seqOK (md : Region.Mode) (ops : Array Oper) : List Nat → Array Bool → Bool
  | [], _ => true
  | i :: B, listed => (Region.ready md ops listed).contains i && Region.free md ops listed i && seqOK md ops B (listed.setIfInBounds i true)

structure Inv (md : Region.Mode) (ops : Array Oper) (B : List Nat) (base listed : Array Bool) : Prop where
  bs : base.size = ops.size
  size : listed.size = ops.size
  out : ∀ j, j ∉ B → listed.getD j true = base.getD j true
  closed : ∀ j oj, ops[j]? = some oj → listed.getD j false = true → base.getD j false = false → ∀ e ∈ oj.after, Region.binds md e = true → listed.getD e.on false = true
theorem Inv.refl {B : List Nat} {base : Array Bool} (h : base.size = ops.size) : Inv md ops B base base := ⟨h, h, fun _ _ => rfl, fun j _ _ h1 h2 => by rw [h1] at h2; cases h2⟩
theorem Inv.set {B : List Nat} {base listed : Array Bool} (h : Inv md ops B base listed) {i : Nat} (hi : i ∈ B) (hr : i ∈ Region.ready md ops listed) : Inv md ops B base (listed.setIfInBounds i true) :=
  ⟨h.bs, by simp [h.size], fun j hj => by rw [getD_set_ne true (fun e => hj (by rw [← e]; exact hi))]; exact h.out j hj, fun j oj hj hl hb e he hbd => by
    by_cases hij : i = j
    · subst hij
      obtain ⟨_, oi, hoi, hall⟩ := mem_ready.1 hr
      have : oj = oi := Option.some.inj (hj.symm.trans hoi)
      subst this
      exact getD_set_true (hall e he hbd)
    · rw [getD_set_ne false hij] at hl
      exact getD_set_true (h.closed j oj hj hl hb e he hbd)⟩
theorem Inv.stays {B : List Nat} {base listed : Array Bool} (h : Inv md ops B base listed) (hc : closedB md ops base B = true) {i j : Nat} (hi : i ∈ B) (hun : listed.getD i true = false) (hj : j ∈ Region.ready md ops listed) : j ∈ B := by
  by_cases hjB : j ∈ B
  · exact hjB
  · exfalso
    simp only [closedB, Bool.and_eq_true] at hc
    obtain ⟨htopo, hc⟩ := hc
    have h1 := List.all_eq_true.1 hc i hi
    obtain ⟨hju, o, ho, hall⟩ := mem_ready.1 hj
    have hsz : ∀ (L : List Nat) (acc : Array Bool), topo md ops L acc = true → ∀ k ∈ L, k < ops.size := by
      intro L
      induction L with
      | nil => intro acc _ k hk; cases hk
      | cons k0 L ih =>
        intro acc ht k hk
        simp only [topo, Bool.and_eq_true] at ht
        rcases List.mem_cons.1 hk with rfl | hk
        · obtain ⟨o, ho, _⟩ := depsOK_iff.1 ht.1
          exact (Array.getElem?_eq_some_iff.1 ho).1
        · exact ih _ ht.2 k hk
    have hge := without_ge (md := md) (ops := ops) (listed := listed) (base := base) (i := i) (getD_both hun) h.closed B base base (fun k hk => by rw [h.bs]; exact hsz B base htopo k hk) htopo (fun _ h => h) (fun _ h _ => h)
    have h2 : j ∈ Region.ready md ops (without md ops i B base) := by
      rw [mem_ready]
      refine ⟨?_, o, ho, fun e he hb => ?_⟩
      · rw [without_out i B base j hjB, ← h.out j hjB]
        exact hju
      · have h3 := hall e he hb
        have hes : e.on < ops.size := by
          rcases Nat.lt_or_ge e.on listed.size with h' | h'
          · rw [← h.size]; exact h'
          · simp [Array.getElem?_eq_none h'] at h3
        refine hge e.on ?_ h3
        by_cases heB : e.on ∈ B
        · exact lay_in _ _ _ heB (by rw [h.bs]; exact hes)
        · refine lay_keep _ _ _ ?_
          have h4 := h.out _ heB
          rw [getD_swap (listed := listed) (by rw [h.size]; exact hes), getD_swap (listed := base) (by rw [h.bs]; exact hes), h3] at h4
          exact h4.symm
    have h5 := List.all_eq_true.1 h1 j h2
    exact hjB (by simpa using h5)

/-- Whatever order is picked from here on, till all of a batch are done. -/
def wpBatch (P : Program) (md : Region.Mode) (ops : Array Oper) (C : World → Prop) (B : List Nat) (L : Array Bool → Act → Prop) : Nat → Array Bool → Act → Prop
  | 0, listed, a => L listed a
  | f + 1, listed, a => Region.ready md ops listed ≠ [] ∧ ∀ i ∈ Region.ready md ops listed, i ∈ B ∧ qOp P ops C i (wpBatch P md ops C B L f (listed.setIfInBounds i true)) a
theorem wpAny_of_batch {B : List Nat} {g : Nat} {L : Array Bool → Act → Prop} {Q' : Exit → Act → World → Prop} (hL : ∀ listed a w, C w → L listed a → wpAny P md ops Q' g listed a w) :
    ∀ (f : Nat) (listed : Array Bool) (a : Act) (w : World), C w → wpBatch P md ops C B L f listed a → wpAny P md ops Q' (f + g) listed a w
  | 0, listed, a, w, hw, h => by rw [Nat.zero_add]; exact hL _ _ _ hw h
  | f + 1, listed, a, w, hw, h => by
    rw [show f + 1 + g = (f + g) + 1 by omega]
    exact ⟨fun h0 => absurd h0 h.1, fun i hi => wpOp_of_qOp hw (fun a' w' hw' h' => wpAny_of_batch hL f _ a' w' hw' h') (h.2 i hi).2⟩

theorem wpBatch_first {B : List Nat} {i : Nat} {oi : Oper} {v : Value} {L : Array Bool → Act → Prop} {base fin : Array Bool} (hi : ops[i]? = some oi) (hsel : ∀ (j : Nat) (o : Oper) cs b, ops[j]? = some o → o.op ≠ .select cs b)
    (hc : closedB md ops base B = true) (hiB : i ∈ B) (hfin : ∀ j ∈ B, fin.getD j true = true) (hL : ∀ listed a, L listed a → listed = fin) :
    ∀ (f : Nat) (listed : Array Bool) (a : Act), Inv md ops B base listed →
      (∀ j oj, ops[j]? = some oj → j ≠ i → listed.getD j true = false → (∀ e ∈ oj.after, Region.binds md e = true → e.on ≠ i) → oi.apart ops oj = true) →
      i ∈ Region.ready md ops listed → YieldsIn P ops C oi v a →
      wpBatch P md ops C B L f (listed.setIfInBounds i true) (a.put oi.dst v) → wpBatch P md ops C B L (f + 1) listed a := by
  intro f
  induction f with
  | zero =>
    intro listed a inv _ hr hy H
    have hun := (mem_ready.1 hr).1
    refine ⟨fun h => (by rw [h] at hr; cases hr), fun j hj => ?_⟩
    have hjB := inv.stays hc hiB hun hj
    refine ⟨hjB, ?_⟩
    by_cases hji : j = i
    · subst hji; exact hy.qOp hi H
    · exfalso
      have h1 := ready_mono hj hji
      rw [hL _ _ H] at h1
      have h2 := (mem_ready.1 h1).1
      rw [hfin j hjB] at h2
      cases h2
  | succ f ih =>
    intro listed a inv hfree hr hy H
    have hun := (mem_ready.1 hr).1
    refine ⟨fun h => (by rw [h] at hr; cases hr), fun j hj => ?_⟩
    have hjB := inv.stays hc hiB hun hj
    refine ⟨hjB, ?_⟩
    by_cases hji : j = i
    · subst hji; exact hy.qOp hi H
    · have h1 := (H.2 j (ready_mono hj hji)).2
      obtain ⟨hjun, oj, hoj, hall⟩ := mem_ready.1 hj
      have hnot : ∀ e ∈ oj.after, Region.binds md e = true → e.on ≠ i := fun e he hb heq => by
        have h1 := hall e he hb
        rw [heq, getD_both hun] at h1
        cases h1
      have h2 := qOp_put hoj (hfree j oj hoj hji hjun hnot) (fun cs b => hsel i oi cs b hi) (fun cs b => hsel j oj cs b hoj) hy h1
      have hfree' : ∀ k ok, ops[k]? = some ok → k ≠ i → (listed.setIfInBounds j true).getD k true = false →
          (∀ e ∈ ok.after, Region.binds md e = true → e.on ≠ i) → oi.apart ops ok = true := fun k ok hk hki hun hno => by
        refine hfree k ok hk hki ?_ hno
        by_cases hjk : j = k
        · subst hjk; exact hjun
        · rw [getD_set_ne true hjk] at hun; exact hun
      refine qOp_mono (fun a' h3 => ih (listed.setIfInBounds j true) a' (inv.set hjB hj) hfree' (ready_mono hr (Ne.symm hji)) h3.1 ?_) h2
      rw [Array.setIfInBounds_comm _ _ hji]
      exact h3.2
theorem wpBatch_lex {B : List Nat} {Lq : Act → Prop} {base fin : Array Bool} (hsel : Region.noSelect ops = true) (hc : closedB md ops base B = true) (hfin : ∀ j ∈ B, fin.getD j true = true) :
    ∀ (l : List Nat) (listed : Array Bool) (a : Act), (∀ i ∈ l, i ∈ B) → Inv md ops B base listed → seqOK md ops l listed = true → lay listed l = fin →
    wpQuiet P ops C Lq (l.filterMap (ops[·]?)) a → wpBatch P md ops C B (fun listed' a' => listed' = fin ∧ Lq a') l.length listed a
  | [], listed, a, _, _, _, hf, h => ⟨hf, h⟩
  | i :: l, listed, a, hl, inv, hB, hf, h => by
    simp only [seqOK, Bool.and_eq_true] at hB
    obtain ⟨⟨hr, hfr⟩, hB'⟩ := hB
    have hr' : i ∈ Region.ready md ops listed := by simpa using hr
    obtain ⟨_, o, ho, _⟩ := mem_ready.1 hr'
    have hst : qOp P ops C i (wpQuiet P ops C Lq (l.filterMap (ops[·]?))) a := by
      unfold qOp
      simp only [ho]
      rw [List.filterMap_cons_some ho] at h
      exact h
    obtain ⟨v, hy, hK⟩ := yieldsIn_of_qOp ho hst
    have hiB := hl i List.mem_cons_self
    exact wpBatch_first ho (Region.noSelect_spec hsel) hc hiB hfin (fun _ _ hL => hL.1) l.length listed a inv (Region.free_spec ho hfr) hr' hy
      (wpBatch_lex hsel hc hfin l _ _ (fun k hk => hl k (List.mem_cons_of_mem _ hk)) (inv.set hiB hr') hB' hf hK)
def quietB (md : Region.Mode) (ops : Array Oper) (base : Array Bool) (B : List Nat) : Bool :=
  Region.noSelect ops && decide (base.size = ops.size) && closedB md ops base B && seqOK md ops B base
/-- A batch of operations that give one value in every world of a class. -/
theorem wpAny_quiet {Q : Exit → Act → World → Prop} {a : Act} {w : World} {base : Array Bool} {N fuel : Nat} (B : List Nat) (hB : quietB md ops base B = true) (hN : N = B.length + fuel) (hw : C w)
    (h : wpQuiet P ops C (fun a' => ∀ w', C w' → wpAny P md ops Q fuel (lay base B) a' w') (B.filterMap (ops[·]?)) a) : wpAny P md ops Q N base a w := by
  simp only [quietB, Bool.and_eq_true, decide_eq_true_eq] at hB
  obtain ⟨⟨⟨hsel, hsz⟩, hc⟩, hseq⟩ := hB
  subst hN
  have hfin : ∀ j ∈ B, (lay base B).getD j true = true := fun j hj => by
    by_cases hjs : j < base.size
    · rw [getD_swap (by rw [lay_size]; exact hjs)]
      exact lay_in B base j hj hjs
    · simp [Array.getElem?_eq_none (show (lay base B).size ≤ j by rw [lay_size]; omega)]
  have H := wpBatch_lex (md := md) (base := base) hsel hc hfin B base a (fun _ h => h) (Inv.refl hsz) hseq rfl h
  exact wpAny_of_batch (fun listed a' w' hw' hL => by obtain ⟨rfl, h2⟩ := hL; exact h2 w' hw') _ _ _ _ hw H

/-! calls that make memory of their own, and stores -/
/-- What an operation may come to. -/
def gives (P : Program) (R : World → World → Prop) (T : Value → World → Prop) (w : World) : Result Next → Prop
  | .ok (.value u) w' => R w w' ∧ T u w'
  | .ok .skip w' => R w w' ∧ T undef w'
  | .ok (.enter f args) w' => w' = w ∧ Calls P f args w (fun e w'' => ∃ v, e = .returned v ∧ R w w'' ∧ T v w'')
  | _ => False
structure Rely (R : World → World → Prop) : Prop where
  refl : ∀ w, R w w
  trans : ∀ {a b c}, R a b → R b c → R a c
def Stable (R : World → World → Prop) (T : Value → World → Prop) : Prop := ∀ v w w', R w w' → T v w → T v w'
abbrev Item := Nat × (Value → World → Prop)
def wpLoose (P : Program) (ops : Array Oper) (R : World → World → Prop) (w0 : World) (Q : Act → (World → Prop) → Prop) : List Item → Act → (World → Prop) → Prop
  | [], a, F => Q a F
  | x :: rest, a, F => ∃ o, ops[x.1]? = some o ∧ Region.wanted o (yielded ops a.tmps) = true ∧ (∀ w, R w0 w → gives P R x.2 w ((execOp a.eval o).run P w)) ∧
      ∀ v, wpLoose P ops R w0 Q rest (a.put o.dst v) (fun w => F w ∧ x.2 v w)
def apartB (ops : Array Oper) (B : List Nat) : Bool :=
  B.all fun i => B.all fun j => i == j || (match ops[i]?, ops[j]? with | some x, some y => x.apart ops y | _, _ => false)
theorem apartB_spec {B : List Nat} (h : apartB ops B = true) {i j : Nat} (hi : i ∈ B) (hj : j ∈ B) (hij : i ≠ j) {x y : Oper} (hx : ops[i]? = some x) (hy : ops[j]? = some y) : x.apart ops y = true := by
  have h1 := List.all_eq_true.1 (List.all_eq_true.1 h i hi) j hj
  simp only [hx, hy, Bool.or_eq_true, beq_iff_eq] at h1
  exact h1.resolve_left hij
variable {R : World → World → Prop} {w0 : World}
theorem wpLoose_mono {Q : Act → (World → Prop) → Prop} (hQ : ∀ a F F', (∀ w, F' w → F w) → Q a F → Q a F') : ∀ (B : List Item) (a : Act) (F F' : World → Prop), (∀ w, F' w → F w) → wpLoose P ops R w0 Q B a F → wpLoose P ops R w0 Q B a F'
  | [], _, _, _, hF, h => hQ _ _ _ hF h
  | _ :: B, _, _, _, hF, ⟨o, h1, h2, h3, h4⟩ => ⟨o, h1, h2, h3, fun v => wpLoose_mono hQ B _ _ _ (fun w hw => ⟨hF w hw.1, hw.2⟩) (h4 v)⟩
theorem wpLoose_pull {Q : Act → (World → Prop) → Prop} (hQ : ∀ a F F', (∀ w, F' w → F w) → Q a F → Q a F') (hsel : ∀ (j : Nat) (o : Oper) cs b, ops[j]? = some o → o.op ≠ .select cs b) {B : List Nat} (hap : apartB ops B = true) {j : Nat} {T : Value → World → Prop} {B2 : List Item} (hj : j ∈ B) :
    ∀ (B1 : List Item) (a : Act) (F : World → Prop), (∀ x ∈ B1, x.1 ∈ B ∧ x.1 ≠ j) → wpLoose P ops R w0 Q (B1 ++ (j, T) :: B2) a F →
    ∃ o, ops[j]? = some o ∧ Region.wanted o (yielded ops a.tmps) = true ∧ (∀ w, R w0 w → gives P R T w ((execOp a.eval o).run P w)) ∧ ∀ v, wpLoose P ops R w0 Q (B1 ++ B2) (a.put o.dst v) (fun w => F w ∧ T v w)
  | [], _, _, _, h => h
  | x :: B1, a, F, hB, ⟨o, h1, h2, h3, h4⟩ => by
    have hx := hB x List.mem_cons_self
    have IH := fun v => wpLoose_pull hQ hsel hap hj B1 (a.put o.dst v) _ (fun y hy => hB y (List.mem_cons_of_mem _ hy)) (h4 v)
    obtain ⟨oj, k1, k2, k3, _⟩ := IH undef
    have hA := apartB_spec hap hx.1 hj hx.2 h1 k1
    obtain ⟨g1, g2, g3⟩ := Oper.apart_spec hA
    refine ⟨oj, k1, ?_, fun w hw => ?_, fun v => ?_⟩
    · rw [wanted_put oj a o.dst undef g1] at k2
      exact k2
    · have := k3 w hw
      rw [execOp_put oj (fun cs b => hsel j oj cs b k1) a o.dst undef g1] at this
      exact this
    · refine ⟨o, h1, ?_, fun w hw => ?_, fun u => ?_⟩
      · rw [wanted_put o a oj.dst v g3]
        exact h2
      · rw [execOp_put o (fun cs b => hsel x.1 o cs b h1) a oj.dst v g3]
        exact h3 w hw
      · obtain ⟨oj', k1', _, _, k4'⟩ := IH u
        rw [k1] at k1'
        injection k1' with k1'
        subst k1'
        rw [← Act.put_comm a u v g2]
        exact wpLoose_mono hQ _ _ _ _ (fun w hw => ⟨⟨hw.1.1, hw.2⟩, hw.1.2⟩) (k4' v)
theorem wpAny_loose_go {Q' : Exit → Act → World → Prop} {fuel : Nat} {base fin : Array Bool} {B : List Nat} (hR : Rely R) (hsel : ∀ (j : Nat) (o : Oper) cs b, ops[j]? = some o → o.op ≠ .select cs b) (hc : closedB md ops base B = true) (hap : apartB ops B = true) :
    ∀ (n : Nat) (L : List Item) (listed : Array Bool) (a : Act) (w : World) (F : World → Prop), L.length = n → (L.map (·.1)).Nodup → (∀ x ∈ L, x.1 ∈ B ∧ x.1 ∈ Region.ready md ops listed ∧ Stable R x.2) →
      (∀ i ∈ B, listed.getD i true = false → i ∈ L.map (·.1)) → Inv md ops B base listed → lay listed (L.map (·.1)) = fin → R w0 w → F w → (∀ w w', R w w' → F w → F w') →
      wpLoose P ops R w0 (fun a' F => ∀ w', R w0 w' → F w' → wpAny P md ops Q' fuel fin a' w') L a F → wpAny P md ops Q' (n + fuel) listed a w := by
  intro n
  induction n with
  | zero =>
    intro L listed a w F hn _ _ _ _ hf hw hF _ h
    have : L = [] := List.length_eq_zero_iff.1 hn
    subst this
    have hf' : listed = fin := hf
    subst hf'
    rw [Nat.zero_add]
    exact h w hw hF
  | succ n ih =>
    intro L listed a w F hn hnd hL hall inv hf hw hF hst h
    rw [show n + 1 + fuel = (n + fuel) + 1 by omega]
    obtain ⟨x0, L0, rfl⟩ : ∃ x L0, L = x :: L0 := by
      cases L with
      | nil => cases hn
      | cons x L0 => exact ⟨x, L0, rfl⟩
    have hx0 := hL x0 List.mem_cons_self
    refine ⟨fun h0 => (by have := hx0.2.1; rw [h0] at this; cases this), fun j hj => ?_⟩
    have hjB : j ∈ B := inv.stays hc hx0.1 (mem_ready.1 hx0.2.1).1 hj
    have hjL := hall j hjB (mem_ready.1 hj).1
    obtain ⟨⟨j', T⟩, hmem, hje⟩ := List.mem_map.1 hjL
    have hje : j' = j := hje
    subst hje
    obtain ⟨B1, B2, hsplit⟩ := List.append_of_mem hmem
    rw [hsplit] at h hnd hf
    have hnd' := hnd
    simp only [List.map_append, List.map_cons] at hnd' hf
    have hne1 : ∀ y ∈ B1, y.1 ≠ j' := fun y hy e => by
      rw [List.nodup_append] at hnd'
      exact hnd'.2.2 y.1 (List.mem_map_of_mem hy) j' (List.mem_cons_self) e
    have hne2 : ∀ y ∈ B2, y.1 ≠ j' := fun y hy e => by
      rw [List.nodup_append] at hnd'
      exact (List.nodup_cons.1 hnd'.2.1).1 (by rw [← e]; exact List.mem_map_of_mem hy)
    have hin1 : ∀ y ∈ B1, y ∈ x0 :: L0 := fun y hy => by rw [hsplit]; exact List.mem_append_left _ hy
    have hin2 : ∀ y ∈ B2, y ∈ x0 :: L0 := fun y hy => by rw [hsplit]; exact List.mem_append_right _ (List.mem_cons_of_mem _ hy)
    have hin12 : ∀ y ∈ B1 ++ B2, y ∈ x0 :: L0 ∧ y.1 ≠ j' := fun y hy => by
      rcases List.mem_append.1 hy with h1 | h1
      · exact ⟨hin1 y h1, hne1 y h1⟩
      · exact ⟨hin2 y h1, hne2 y h1⟩
    obtain ⟨o, k1, k2, k3, k4⟩ := wpLoose_pull (fun a F F' hFF hq w' hw' hF' => hq w' hw' (hFF w' hF')) hsel hap hjB B1 a F (fun y hy => ⟨(hL y (hin1 y hy)).1, hne1 y hy⟩) h
    have hstT := (hL _ hmem).2.2
    have step : ∀ v w', R w w' → T v w' → wpAny P md ops Q' (n + fuel) (listed.setIfInBounds j' true) (a.put o.dst v) w' := fun v w' hww hT => by
      refine ih (B1 ++ B2) (listed.setIfInBounds j' true) (a.put o.dst v) w' (fun w => F w ∧ T v w) ?_ ?_ ?_ ?_ (inv.set hjB hj) ?_ (hR.trans hw hww) ⟨hst _ _ hww hF, hT⟩ (fun w1 w2 h12 h1 => ⟨hst _ _ h12 h1.1, hstT _ _ _ h12 h1.2⟩) (k4 v)
      · rw [hsplit] at hn
        simp only [List.length_append, List.length_cons] at hn ⊢
        omega
      · simp only [List.map_append]
        rw [List.nodup_append] at hnd' ⊢
        exact ⟨hnd'.1, (List.nodup_cons.1 hnd'.2.1).2, fun p hp q hq => hnd'.2.2 p hp q (List.mem_cons_of_mem _ hq)⟩
      · intro y hy
        obtain ⟨h1, h2⟩ := hin12 y hy
        exact ⟨(hL y h1).1, ready_mono (hL y h1).2.1 h2, (hL y h1).2.2⟩
      · intro i hi hun
        have hij : i ≠ j' := by
          rintro rfl
          have hjs : i < listed.size := by
            have h1 := (mem_ready.1 hj).2
            obtain ⟨o', ho', _⟩ := h1
            rw [inv.size]
            exact (Array.getElem?_eq_some_iff.1 ho').1
          rw [getD_swap (by simpa using hjs), set_self hjs] at hun
          cases hun
        rw [getD_set_ne true (Ne.symm hij)] at hun
        have h1 := hall i hi hun
        rw [hsplit] at h1
        simp only [List.map_append, List.map_cons, List.mem_append, List.mem_cons] at h1 ⊢
        rcases h1 with h1 | h1 | h1
        · exact .inl h1
        · exact absurd h1 hij
        · exact .inr h1
      · rw [← hf]
        simp only [List.map_append]
        have hcomm : ∀ (l1 : List Nat) (l2 : List Nat) (s : Array Bool), j' ∉ l1 → lay (s.setIfInBounds j' true) (l1 ++ l2) = lay s (l1 ++ j' :: l2) := by
          intro l1
          induction l1 with
          | nil => intro l2 s _; rfl
          | cons p l1 ihl =>
            intro l2 s hp
            have hpj : p ≠ j' := fun e => hp (by rw [e]; exact List.mem_cons_self)
            show lay ((s.setIfInBounds j' true).setIfInBounds p true) (l1 ++ l2) = lay (s.setIfInBounds p true) (l1 ++ j' :: l2)
            rw [← Array.setIfInBounds_comm _ _ hpj]
            exact ihl l2 _ (fun hm => hp (List.mem_cons_of_mem _ hm))
        refine hcomm _ _ _ (fun hm => ?_)
        obtain ⟨y, hy, hye⟩ := List.mem_map.1 hm
        exact hne1 y hy hye
    unfold wpOp
    simp only [k1]
    rw [if_pos k2]
    refine .inl ?_
    have hg := k3 w hw
    unfold Oper.wp
    generalize (execOp a.eval o).run P w = r at *
    cases r with
    | ok m w' =>
      cases m <;> simp only [gives] at hg <;> simp only [Oper.upon]
      case value u => exact step u w' hg.1 hg.2
      case skip => exact step undef w' hg.1 hg.2
      case enter f args =>
        obtain ⟨rfl, hcall⟩ := hg
        exact hcall.mono fun e w'' ⟨v, he, h1, h2⟩ => by subst he; exact step v w'' h1 h2
    | halt q w' => simp only [gives] at hg
def looseB (md : Region.Mode) (ops : Array Oper) (base : Array Bool) (B : List Nat) : Bool :=
  Region.noSelect ops && decide (base.size = ops.size) && closedB md ops base B && apartB ops B && decide B.Nodup && B.all fun i => (Region.ready md ops base).contains i
/-- A batch of operations, each of which may come up now, that keep a relation between worlds, and give values of which something is known, in whatever order. -/
theorem wpAny_loose {Q' : Exit → Act → World → Prop} {a : Act} {w : World} {base : Array Bool} {N fuel : Nat} (hR : Rely R) (L : List Item) (hB : looseB md ops base (L.map (·.1)) = true) (hst : ∀ x ∈ L, Stable R x.2) (hN : N = L.length + fuel)
    (h : wpLoose P ops R w (fun a' F => ∀ w', R w w' → F w' → wpAny P md ops Q' fuel (lay base (L.map (·.1))) a' w') L a (fun _ => True)) : wpAny P md ops Q' N base a w := by
  simp only [looseB, Bool.and_eq_true, decide_eq_true_eq] at hB
  obtain ⟨⟨⟨⟨⟨hsel, hsz⟩, hc⟩, hap⟩, hnd⟩, hrd⟩ := hB
  subst hN
  refine wpAny_loose_go hR (Region.noSelect_spec hsel) hc hap L.length L base a w (fun _ => True) rfl hnd (fun x hx => ?_) (fun i hi _ => hi) (Inv.refl hsz) rfl (hR.refl w) trivial (fun _ _ _ h => h) h
  have h1 := List.all_eq_true.1 hrd x.1 (List.mem_map_of_mem hx)
  exact ⟨List.mem_map_of_mem hx, by simpa using h1, hst x hx⟩
theorem wpAny_end {Q' : Exit → Act → World → Prop} {a : Act} {w : World} {listed : Array Bool} {N : Nat} (hr : Region.ready md ops listed = []) (h : Q' .normal a w) : wpAny P md ops Q' N listed a w := by
  cases N with
  | zero => exact ⟨hr, h⟩
  | succ n => exact ⟨fun _ => h, fun i hi => (by rw [hr] at hi; cases hi)⟩
theorem wp_region_start {id : Nat} {Q : Exit → Act → World → Prop} {a : Act} {w : World} {l : List Oper} (hm : P.follows .mixedOrders = true)
    (h : wpAny P .any l.toArray Q l.length (Array.replicate l.length false) a w.drew) : (Code.region id l.toArray true).wp P Q a w :=
  wp_region_any hm h
end

/-! a world that has grown -/
structure Grew where
  n : Nat
  os : Array Obj
instance : Inhabited Grew := ⟨⟨0, #[]⟩⟩
def grew (w : World) (p : Grew) : World := { w with heap := w.heap ++ p.os, drawn := p.n }
theorem grew_below (w : World) (p : Grew) : Below w.heap.size w (grew w p) :=
  ⟨rfl, rfl, rfl, by simp [grew], fun k hk => by show (w.heap ++ p.os)[k]? = _; rw [Array.getElem?_append, if_pos hk]⟩
theorem grew_of {w w' : World} (h : Below w.heap.size w w') : ∃ p, w' = grew w p := by
  refine ⟨⟨w'.drawn, w'.heap.extract w.heap.size w'.heap.size⟩, ?_⟩
  obtain ⟨hp, t, d, o, ou⟩ := w'
  obtain ⟨hp0, t0, d0, o0, ou0⟩ := w
  obtain ⟨h1, h2, h3, h4, h5⟩ := h
  simp only at h1 h2 h3 h4 h5
  subst h1 h2 h3
  simp only [grew, World.mk.injEq, and_self, and_true]
  apply Array.ext_getElem?
  intro k
  by_cases hk : k < hp0.size
  · rw [h5 k hk, Array.getElem?_append, if_pos hk]
  · rw [Array.getElem?_append, if_neg hk]
    by_cases hk2 : k < hp.size
    · rw [Array.getElem?_extract, if_pos (by omega)]
      congr 1
      omega
    · rw [Array.getElem?_extract, if_neg (by omega), Array.getElem?_eq_none (by omega)]
theorem grew_size (w : World) (p : Grew) : w.heap.size ≤ (grew w p).heap.size := (grew_below w p).size
theorem grew_cell {w : World} {a : Addr} (h : a.block < w.heap.size) (p : Grew) : (grew w p).cell? a = w.cell? a := (grew_below w p).cell h
theorem grew_frozen {w : World} {a : Addr} (h : a.block < w.heap.size) (p : Grew) : (grew w p).frozen? a = w.frozen? a := (grew_below w p).frozen h
theorem calls_grew {P : Program} {f : FuncId} {args : Array Value} {w : World} {p : Grew} {v : Value} (h : Calls P f args (grew w p) fun e w' => e = .returned v ∧ Below (grew w p).heap.size (grew w p) w') :
    Calls P f args (grew w p) fun e w' => e = .returned v ∧ ∃ q : Grew, w' = grew w q :=
  h.mono fun _ _ ⟨he, hb⟩ => ⟨he, grew_of ((grew_below w p).trans (hb.mono (grew_size w p)))⟩
/-- A region that draws its order, whose operations read, and whose callees make memory at most: walked once. -/
theorem wp_region_grew {P : Program} {id : Nat} {Q : Exit → Act → World → Prop} {a : Act} {w : World} {l : List Oper} (hm : P.follows .mixedOrders = true) (hB : Region.lexB .any l.toArray = true)
    (h : wpQuiet P l.toArray (fun w' => ∃ p : Grew, w' = grew w p) (fun a' => ∀ w', (∃ p : Grew, w' = grew w p) → Q .normal a' w') l a) : (Code.region id l.toArray true).wp P Q a w :=
  wp_region_quiet (C := fun w' => ∃ p : Grew, w' = grew w p) hm hB (grew_of (Below.refl _ _).drew) (by simpa using h)
theorem range_take (l : List Oper) (n : Nat) (h : n ≤ l.length) : (List.range n).filterMap (fun i => l.toArray[i]?) = l.take n := by
  induction n with
  | zero => simp
  | succ n ih =>
    have hn : n < l.length := by omega
    rw [List.range_succ, List.filterMap_append, ih (by omega), List.take_add_one]
    simp [hn]
/-- .. and whose last operations come one behind the other, behind all others. -/
theorem wp_region_grew_tail {P : Program} {id : Nat} {Q : Exit → Act → World → Prop} {a : Act} {w : World} {l : List Oper} (n : Nat) (hm : P.follows .mixedOrders = true)
    (hB : (quietB .any l.toArray (Array.replicate l.length false) (List.range n) && decide (n ≤ l.length) && Region.seqB .any l.toArray (l.length - n) n (lay (Array.replicate l.length false) (List.range n))) = true)
    (h : wpQuiet P l.toArray (fun w' => ∃ p : Grew, w' = grew w p) (fun a' => ∀ w', (∃ p : Grew, w' = grew w p) → wpList P l.toArray Q (l.drop n) a' w') (l.take n) a) : (Code.region id l.toArray true).wp P Q a w := by
  simp only [Bool.and_eq_true, decide_eq_true_eq] at hB
  obtain ⟨⟨h1, h2⟩, h3⟩ := hB
  refine wp_region_start hm (wpAny_quiet (C := fun w' => ∃ p : Grew, w' = grew w p) (fuel := l.length - n) (List.range n) h1 (by rw [List.length_range]; omega) (grew_of (Below.refl _ _).drew) ?_)
  rw [range_take l n h2]
  have key : ∀ (L : List Oper) (a : Act), wpQuiet P l.toArray (fun w' => ∃ p : Grew, w' = grew w p) (fun a' => ∀ w', (∃ p : Grew, w' = grew w p) → wpList P l.toArray Q (l.drop n) a' w') L a →
      wpQuiet P l.toArray (fun w' => ∃ p : Grew, w' = grew w p) (fun a' => ∀ w', (∃ p : Grew, w' = grew w p) → wpAny P .any l.toArray Q (l.length - n) (lay (Array.replicate l.length false) (List.range n)) a' w') L a := by
    intro L
    induction L with
    | nil =>
      intro a h w' hw
      have hd : (l.drop n).length = l.length - n := by simp
      have := wpAny_of_seq (P := P) (md := .any) (ops := l.toArray) (Q' := Q) (l.drop n) n (lay (Array.replicate l.length false) (List.range n)) a w' (fun j => by simp [List.getElem?_drop]) (by rw [hd]; exact h3) (h w' hw)
      rw [hd] at this
      exact this
    | cons o L ih =>
      intro a h
      unfold wpQuiet at h ⊢
      split
      · rename_i hw
        simp only [hw, if_true] at h
        exact Oper.quiet_mono (fun a => ih a) h
      · rename_i hw
        simp only [hw] at h
        exact ih _ h
  exact key _ _ h
/-- Operations that give a value, or nothing. -/
def valued : Op → Bool
  | .move _ | .assign _ | .fieldAddr _ _ _ | .indexAddr _ _ _ | .binOp _ _ _ _ _ | .convert _ _ _ | .slice _ _ _ _ _ => true
  | _ => false
theorem valued_value {P : Program} {o : Oper} (h : valued o.op = true) (ρ : Operand → Value) (w w' : World) (n : Next) (hr : (execOp ρ o).run P w = .ok n w') : ∃ u, n = .value u := by
  obtain ⟨dst, op, type, pos, after, guard⟩ := o
  have key : ∀ (s : Sem Value), (do pure (Next.value (← s)) : Sem Next).run P w = .ok n w' → ∃ u, n = .value u := fun s hs => by
    rw [Sem.run_bind] at hs
    cases hq : s.run P w with
    | halt q w1 => rw [hq] at hs; cases hs
    | ok u w1 =>
      rw [hq] at hs
      simp only [Result.andThen_ok, Sem.run_pure, Result.ok.injEq] at hs
      exact ⟨u, hs.1.symm⟩
  cases op <;> first | (exfalso; simp [valued] at h; done) | skip
  case move x => exact key (pure (ρ x)) hr
  case assign x => exact key (pure (ρ x)) hr
  all_goals exact key _ hr
/-- These give the same whatever the world is. -/
def moveB (ops : Array Oper) (M : List Nat) : Bool := M.all fun i => match ops[i]? with | some o => valued o.op && o.guard.isNone | none => false
theorem wpAny_moves {P : Program} {ops : Array Oper} {Q : Exit → Act → World → Prop} {K : Act → Prop} {w : World} {fuel : Nat} {fin : Array Bool} (hs : Region.noSelect ops = true) (hQ : ∀ c a i v w, Q (.panic c) (a.put i v) w → Q (.panic c) a w) :
    ∀ (M : List Nat) (listed : Array Bool) (a : Act), moveB ops M = true → seqOK .any ops M listed = true → lay listed M = fin → (∀ a', K a' → wpAny P .any ops Q fuel fin a' w) →
      wpQuiet P ops (fun _ => True) K (M.filterMap (ops[·]?)) a → wpAny P .any ops Q (M.length + fuel) listed a w
  | [], listed, a, _, _, hf, hK, h => by
    have hf : listed = fin := hf
    subst hf
    simp only [List.length_nil, Nat.zero_add]
    exact hK a h
  | i :: M, listed, a, hm, hsq, hf, hK, h => by
    simp only [seqOK, Bool.and_eq_true] at hsq
    obtain ⟨⟨hr, hfr⟩, hB'⟩ := hsq
    simp only [moveB, List.all_cons, Bool.and_eq_true] at hm
    obtain ⟨hm1, hm2⟩ := hm
    cases ho : ops[i]? with
    | none => rw [ho] at hm1; simp at hm1
    | some o =>
      rw [ho] at hm1
      rw [List.filterMap_cons_some ho] at h
      simp only [Bool.and_eq_true] at hm1
      obtain ⟨hmv, hg⟩ := hm1
      have hw : Region.wanted o (yielded ops a.tmps) = true := by
        unfold Region.wanted
        cases hgd : o.guard with
        | none => rfl
        | some g => rw [hgd] at hg; cases hg
      unfold wpQuiet at h
      rw [if_pos hw] at h
      obtain ⟨v, hv, hk⟩ := h
      have hrun : ∀ w, (execOp a.eval o).run P w = .ok (.value v) w := fun w => by
        have h1 := hv w trivial
        unfold Oper.quietAt at h1
        cases hq : (execOp a.eval o).run P w with
        | halt q w1 => rw [hq] at h1; exact h1.elim
        | ok n w1 =>
          obtain ⟨u, rfl⟩ := valued_value hmv a.eval w w1 n hq
          rw [hq] at h1
          obtain ⟨rfl, rfl⟩ := h1
          rfl
      rw [show (i :: M).length + fuel = (M.length + fuel) + 1 by simp only [List.length_cons]; omega]
      exact wpAny_take ho hs hfr hr (fun c a' w' h' => hQ c a' _ _ w' h') (.inl ⟨hw, hrun⟩) (wpAny_moves hs hQ M _ _ (by simpa [moveB] using hm2) hB' hf hK hk)
/-- No panic. -/
def Qn (Q : Exit → Act → World → Prop) : Exit → Act → World → Prop
  | .normal, a, w => Q .normal a w
  | .outgrown, a, w => Q .outgrown a w
  | _, _, _ => False
theorem Qn_normal (Q : Exit → Act → World → Prop) (a : Act) (w : World) : Qn Q .normal a w = Q .normal a w := rfl
theorem wpOp_qn {P : Program} {ops : Array Oper} {Q : Exit → Act → World → Prop} {i : Nat} {K K' : Act → World → Prop} {a : Act} {w : World} (h : ∀ a w, K a w → K' a w) (hh : wpOp P ops (Qn Q) i K a w) : wpOp P ops Q i K' a w := by
  have hl : LetsOut (Qn Q) → LetsOut Q := fun ⟨a, w, h⟩ => ⟨a, w, h⟩
  unfold wpOp at *
  split
  · rename_i ho; simp only [ho] at hh; exact h _ _ hh
  · rename_i o ho
    simp only [ho] at hh
    split
    · rename_i hw
      simp only [hw, if_true] at hh
      refine hh.imp (fun hh => ?_) (fun hh => ⟨hh.1, hl hh.2⟩)
      unfold Oper.wp at *
      generalize (execOp a.eval o).run P w = r at *
      cases r with
      | ok n w' =>
        cases n <;> simp only [Oper.upon] at hh ⊢
        case value => exact h _ _ hh
        case skip => exact h _ _ hh
        case defer => exact h _ _ hh
        case enter f args => exact Calls.mono hh (fun e w'' he => by cases e <;> first | exact h _ _ he | exact hl he | exact he.elim)
        case row row args => exact Rows.mono hh (fun _ _ he => h _ _ he)
      | halt x w' => cases x <;> simp only [Oper.upon] at hh ⊢ <;> exact hh.elim
    · rename_i hw; simp only [hw] at hh; exact h _ _ hh
theorem wpAny_qn {P : Program} {md : Region.Mode} {ops : Array Oper} {Q : Exit → Act → World → Prop} : ∀ (fuel : Nat) (listed : Array Bool) (a : Act) (w : World), wpAny P md ops (Qn Q) fuel listed a w → wpAny P md ops Q fuel listed a w
  | 0, _, _, _, h => h
  | fuel + 1, _, _, _, h => ⟨h.1, fun i hi => wpOp_qn (fun a w => wpAny_qn fuel _ a w) (h.2 i hi)⟩
def pick (l : List Oper) : List Nat → List Oper
  | [] => []
  | i :: B => l.getD i default :: pick l B
theorem pick_eq (l : List Oper) : ∀ (B : List Nat), B.all (fun i => decide (i < l.length)) = true → B.filterMap (fun i => l.toArray[i]?) = pick l B
  | [], _ => rfl
  | i :: B, h => by
    simp only [List.all_cons, Bool.and_eq_true, decide_eq_true_eq] at h
    rw [pick, ← pick_eq l B h.2]
    simp [h.1]
/-- A region that draws its order: moves, then what reads and calls, then a tail. -/
theorem wp_region_grew_move {P : Program} {id : Nat} {Q : Exit → Act → World → Prop} {a : Act} {w : World} {l : List Oper} (M B : List Nat) (n : Nat) (hm : P.follows .mixedOrders = true)
    (hB : (M.all (fun i => decide (i < l.length)) && B.all (fun i => decide (i < l.length)) && Region.noSelect l.toArray && moveB l.toArray M && seqOK .any l.toArray M (Array.replicate l.length false) && quietB .any l.toArray (lay (Array.replicate l.length false) M) B && decide (M.length + B.length = n) && decide (n ≤ l.length) && Region.seqB .any l.toArray (l.length - n) n (lay (lay (Array.replicate l.length false) M) B)) = true)
    (h : wpQuiet P l.toArray (fun _ => True) (fun a' => wpQuiet P l.toArray (fun w' => ∃ p : Grew, w' = grew w p) (fun a' => ∀ w', (∃ p : Grew, w' = grew w p) → wpList P l.toArray (Qn Q) (l.drop n) a' w') (pick l B) a') (pick l M) a) : (Code.region id l.toArray true).wp P Q a w := by
  simp only [Bool.and_eq_true, decide_eq_true_eq] at hB
  obtain ⟨⟨⟨⟨⟨⟨⟨⟨g1, g2⟩, h0⟩, h1⟩, h2⟩, h3⟩, h4⟩, h5⟩, h6⟩ := hB
  rw [← pick_eq l M g1, ← pick_eq l B g2] at h
  have key : ∀ (L : List Oper) (a : Act), wpQuiet P l.toArray (fun w' => ∃ p : Grew, w' = grew w p) (fun a' => ∀ w', (∃ p : Grew, w' = grew w p) → wpList P l.toArray (Qn Q) (l.drop n) a' w') L a →
      wpQuiet P l.toArray (fun w' => ∃ p : Grew, w' = grew w p) (fun a' => ∀ w', (∃ p : Grew, w' = grew w p) → wpAny P .any l.toArray (Qn Q) (l.length - n) (lay (lay (Array.replicate l.length false) M) B) a' w') L a := by
    intro L
    induction L with
    | nil =>
      intro a h w' hw
      have hd : (l.drop n).length = l.length - n := by simp
      have := wpAny_of_seq (P := P) (md := .any) (ops := l.toArray) (Q' := Qn Q) (l.drop n) n (lay (lay (Array.replicate l.length false) M) B) a w' (fun j => by simp [List.getElem?_drop]) (by rw [hd]; exact h6) (h w' hw)
      rw [hd] at this
      exact this
    | cons o L ih =>
      intro a h
      unfold wpQuiet at h ⊢
      split
      · rename_i hw
        simp only [hw, if_true] at h
        exact Oper.quiet_mono (fun a => ih a) h
      · rename_i hw
        simp only [hw] at h
        exact ih _ h
  refine wp_region_start hm (wpAny_qn _ _ _ _ ?_)
  have := wpAny_moves (Q := Qn Q) (w := w.drew) (fuel := l.length - M.length) h0 (fun _ _ _ _ _ h => h.elim) M (Array.replicate l.length false) a h1 h2 rfl (fun a' ha' => wpAny_quiet (C := fun w' => ∃ p : Grew, w' = grew w p) (fuel := l.length - n) B h3 (by omega) (grew_of (Below.refl _ _).drew) (key _ _ ha')) h
  rwa [show M.length + (l.length - M.length) = l.length by omega] at this
theorem rely_below : Rely (fun w w' => Below w.heap.size w w') := ⟨fun w => Below.refl _ w, fun {_ _ _} h k => Below.trans h (Below.mono k h.size)⟩
end Batch
end Go.Proofs.YtgalhnobckoneaaGreatDoor
