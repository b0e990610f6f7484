/- REGIONS THAT DRAW THEIR ORDER: what reads, and operations that make memory, in whatever order; each may lean on what is known of some that it waits for. No program is named. -/
import Derived.Test.YtgalhnobckoneaaGreatDoorMixC
namespace Go.Proofs.YtgalhnobckoneaaGreatDoor
namespace Batch
open Go.RowKit
section
variable {P : Program} {ops : Array Oper} {md : Region.Mode} {R : World → World → Prop} {w0 : World}

abbrev Facts := List (Nat × (World → Prop))
/-- One of a sequence: a read, or one that makes memory, with what it leans on, and what is known of its value. -/
abbrev Elt := Nat × List Nat × Option (Value → World → Prop)
def Fits (ln : List Nat) (Fs : Facts) (w : World) : Prop := ∀ p ∈ Fs, p.1 ∈ ln → p.2 w
/-- What is to be shown, in one order. -/
def seqF (P : Program) (ops : Array Oper) (R : World → World → Prop) (w0 : World) (Q : Act → Facts → Prop) : List Elt → Act → Facts → Prop
  | [], a, Fs => Q a Fs
  | (i, _, none) :: l, a, Fs => ∃ o v, ops[i]? = some o ∧ calm2 o.op = true ∧ YieldsIn P ops (R w0) o v a ∧ seqF P ops R w0 Q l (a.put o.dst v) Fs
  | (i, ln, some T) :: l, a, Fs => ∃ o, ops[i]? = some o ∧ Region.wanted o (yielded ops a.tmps) = true ∧ (∃ v w, T v w) ∧ (∀ w, R w0 w → Fits ln Fs w → gives P R T w ((execOp a.eval o).run P w)) ∧
      ∀ v, (∃ w, T v w) → seqF P ops R w0 Q l (a.put o.dst v) ((i, T v) :: Fs)
theorem Fits.sub {ln : List Nat} {Fs Fs' : Facts} {w : World} (h : Fits ln Fs' w) (hs : ∀ p ∈ Fs, p ∈ Fs') : Fits ln Fs w := fun p hp => h p (hs p hp)
theorem seqF_mono {Q : Act → Facts → Prop} (hQ : ∀ a Fs Fs', (∀ p ∈ Fs, p ∈ Fs') → Q a Fs → Q a Fs') : ∀ (l : List Elt) (a : Act) (Fs Fs' : Facts), (∀ p ∈ Fs, p ∈ Fs') → seqF P ops R w0 Q l a Fs → seqF P ops R w0 Q l a Fs'
  | [], a, Fs, Fs', hs, h => hQ a Fs Fs' hs h
  | (i, _, none) :: l, a, Fs, Fs', hs, ⟨o, v, h1, h2, h3, h4⟩ => ⟨o, v, h1, h2, h3, seqF_mono hQ l _ Fs Fs' hs h4⟩
  | (i, ln, some T) :: l, a, Fs, Fs', hs, ⟨o, h1, h2, h3, h4, h5⟩ => ⟨o, h1, h2, h3, fun w hw hf => h4 w hw (hf.sub hs), fun v hv => seqF_mono hQ l _ _ _ (fun p hp => by
      rcases List.mem_cons.1 hp with rfl | hp
      · exact List.mem_cons_self
      · exact List.mem_cons_of_mem _ (hs p hp)) (h5 v hv)⟩
theorem yields_unique {C : World → Prop} {o : Oper} {v v' : Value} {a : Act} {w : World} (hc : calm2 o.op = true) (hC : C w) (h : YieldsIn P ops C o v a) (h' : YieldsIn P ops C o v' a) : v = v' := by
  rcases h with ⟨h1, h2⟩ | ⟨h1, h2⟩ <;> rcases h' with ⟨k1, k2⟩ | ⟨k1, k2⟩
  · have e1 := h2 w hC
    have e2 := k2 w hC
    unfold Oper.quietAt at e1 e2
    cases hr : (execOp a.eval o).run P w with
    | halt q w' => rw [hr] at e1; exact e1.elim
    | ok n w' =>
      obtain ⟨u, rfl⟩ := calm2_value hc a.eval w w' n hr
      rw [hr] at e1 e2
      exact e1.2.symm.trans e2.2
  · rw [h1] at k1; cases k1
  · rw [h1] at k1; cases k1
  · rw [h2, k2]
/-- x ahead of e: e waits for x, or they do not meet. -/
def pairF (md : Region.Mode) (ops : Array Oper) (x e : Nat × List Nat) : Bool :=
  match ops[x.1]?, ops[e.1]? with
  | some ox, some oe => (oe.after.any fun d => Region.binds md d && d.on == x.1) || (ox.apart ops oe && !e.2.contains x.1)
  | _, _ => false
def pairsF (md : Region.Mode) (ops : Array Oper) : List (Nat × List Nat) → Bool
  | [] => true
  | x :: l => l.all (pairF md ops x) && pairsF md ops l
def apartF (ops : Array Oper) (x e : Nat × List Nat) : Prop := ∃ ox oe, ops[x.1]? = some ox ∧ ops[e.1]? = some oe ∧ ox.apart ops oe = true ∧ x.1 ∉ e.2
/-- One that does not wait for those ahead comes first. -/
theorem seqF_pull {Q : Act → Facts → Prop} (hR : Rely R) (hQ : ∀ a Fs Fs', (∀ p ∈ Fs, p ∈ Fs') → Q a Fs → Q a Fs') (hsel : ∀ (j : Nat) (o : Oper) cs b, ops[j]? = some o → o.op ≠ .select cs b) (e : Elt) (l2 : List Elt) :
    ∀ (l1 : List Elt) (a : Act) (Fs : Facts), (∀ x ∈ l1, apartF ops (x.1, x.2.1) (e.1, e.2.1)) → seqF P ops R w0 Q (l1 ++ e :: l2) a Fs → seqF P ops R w0 Q (e :: (l1 ++ l2)) a Fs
  | [], a, Fs, _, h => h
  | (i, _, none) :: l1, a, Fs, hap, ⟨o, v, h1, h2, h3, h4⟩ => by
    obtain ⟨ox, oe, k1, k2, k3, k4⟩ := hap _ List.mem_cons_self
    obtain rfl : o = ox := Option.some.inj (h1.symm.trans k1)
    obtain ⟨g1, g2, g3⟩ := Oper.apart_spec k3
    have ih := seqF_pull hR hQ hsel e l2 l1 _ Fs (fun x hx => hap x (List.mem_cons_of_mem _ hx)) h4
    obtain ⟨j, ln, T⟩ := e
    cases T with
    | none =>
      obtain ⟨o2, v2, m1, m2, m3, m4⟩ := ih
      obtain rfl : o2 = oe := Option.some.inj (m1.symm.trans k2)
      refine ⟨o2, v2, m1, m2, m3.of_same (execOp_put o2 (fun cs b => hsel j o2 cs b m1) a o.dst v g1).symm (wanted_put o2 a o.dst v g1).symm, o, v, h1, h2, h3.of_same (execOp_put o (fun cs b => hsel i o cs b h1) a o2.dst v2 g3) (wanted_put o a o2.dst v2 g3), ?_⟩
      rw [← Act.put_comm a v v2 g2]
      exact m4
    | some T =>
      obtain ⟨o2, m1, m2, m3, m4, m5⟩ := ih
      obtain rfl : o2 = oe := Option.some.inj (m1.symm.trans k2)
      rw [wanted_put o2 a o.dst v g1] at m2
      refine ⟨o2, m1, m2, m3, fun w hw hf => ?_, fun u hu => ⟨o, v, h1, h2, h3.of_same (execOp_put o (fun cs b => hsel i o cs b h1) a o2.dst u g3) (wanted_put o a o2.dst u g3), ?_⟩⟩
      · have := m4 w hw hf
        rw [execOp_put o2 (fun cs b => hsel j o2 cs b m1) a o.dst v g1] at this
        exact this
      · rw [← Act.put_comm a v u g2]
        exact m5 u hu
  | (i, ln0, some T0) :: l1, a, Fs, hap, ⟨o, h1, h2, h3, h4, h5⟩ => by
    obtain ⟨ox, oe, k1, k2, k3, k4⟩ := hap _ List.mem_cons_self
    obtain rfl : o = ox := Option.some.inj (h1.symm.trans k1)
    obtain ⟨g1, g2, g3⟩ := Oper.apart_spec k3
    have ih := fun v hv => seqF_pull hR hQ hsel e l2 l1 _ ((i, T0 v) :: Fs) (fun x hx => hap x (List.mem_cons_of_mem _ hx)) (h5 v hv)
    obtain ⟨v0, hv0⟩ := h3
    obtain ⟨j, ln, T⟩ := e
    cases T with
    | none =>
      obtain ⟨o2, v2, m1, m2, m3, m4⟩ := ih v0 hv0
      obtain rfl : o2 = oe := Option.some.inj (m1.symm.trans k2)
      have m3' := m3.of_same (execOp_put o2 (fun cs b => hsel j o2 cs b m1) a o.dst v0 g1).symm (wanted_put o2 a o.dst v0 g1).symm
      refine ⟨o2, v2, m1, m2, m3', o, h1, by rw [wanted_put o a o2.dst v2 g3]; exact h2, ⟨v0, hv0⟩, fun w hw hf => ?_, fun v hv => ?_⟩
      · rw [execOp_put o (fun cs b => hsel i o cs b h1) a o2.dst v2 g3]
        exact h4 w hw hf
      · obtain ⟨o3, v3, n1, n2, n3, n4⟩ := ih v hv
        obtain rfl : o3 = o2 := Option.some.inj (n1.symm.trans m1)
        have n3' := n3.of_same (execOp_put o3 (fun cs b => hsel j o3 cs b m1) a o.dst v g1).symm (wanted_put o3 a o.dst v g1).symm
        have := yields_unique m2 (hR.refl w0) m3' n3'
        subst this
        rw [← Act.put_comm a v v2 g2]
        exact n4
    | some T =>
      obtain ⟨o2, m1, m2, m3, m4, m5⟩ := ih v0 hv0
      obtain rfl : o2 = oe := Option.some.inj (m1.symm.trans k2)
      rw [wanted_put o2 a o.dst v0 g1] at m2
      refine ⟨o2, m1, m2, m3, fun w hw hf => ?_, fun u hu => ⟨o, h1, by rw [wanted_put o a o2.dst u g3]; exact h2, ⟨v0, hv0⟩, fun w hw hf => ?_, fun v hv => ?_⟩⟩
      · have := m4 w hw (fun p hp hin => by
          rcases List.mem_cons.1 hp with rfl | hp
          · exact absurd hin k4
          · exact hf p hp hin)
        rw [execOp_put o2 (fun cs b => hsel j o2 cs b m1) a o.dst v0 g1] at this
        exact this
      · rw [execOp_put o (fun cs b => hsel i o cs b h1) a o2.dst u g3]
        exact h4 w hw (hf.sub fun p hp => List.mem_cons_of_mem _ hp)
      · obtain ⟨o3, n1, n2, n3, n4, n5⟩ := ih v hv
        obtain rfl : o3 = o2 := Option.some.inj (n1.symm.trans m1)
        rw [← Act.put_comm a v u g2]
        refine seqF_mono hQ _ _ _ _ (fun p hp => ?_) (n5 u hu)
        simp only [List.mem_cons] at hp ⊢
        rcases hp with h | h | h
        · exact .inr (.inl h)
        · exact .inl h
        · exact .inr (.inr h)
theorem topo_mono : ∀ (l : List Nat) (x y : Array Bool), x.size = y.size → (∀ j, x.getD j false = true → y.getD j false = true) → topo md ops l x = true → topo md ops l y = true
  | [], _, _, _, _, _ => rfl
  | j :: l, x, y, hs, hxy, h => by
    simp only [topo, Bool.and_eq_true] at h ⊢
    obtain ⟨o, ho, hd⟩ := depsOK_iff.1 h.1
    refine ⟨depsOK_iff.2 ⟨o, ho, fun e he hb => hxy _ (hd e he hb)⟩, topo_mono l _ _ (by simpa using hs) (fun k hk => ?_) h.2⟩
    by_cases hjk : j = k
    · subst hjk
      rcases Nat.lt_or_ge j y.size with h' | h'
      · simp [h']
      · simp at hk
        omega
    · rw [getD_set_ne false hjk] at hk ⊢
      exact hxy k hk
theorem topo_pull {e : Nat} {l2 : List Nat} : ∀ (l1 : List Nat) (x : Array Bool), topo md ops (l1 ++ e :: l2) x = true → topo md ops (l1 ++ l2) (x.setIfInBounds e true) = true
  | [], x, h => by
    simp only [List.nil_append, topo, Bool.and_eq_true] at h
    exact h.2
  | j :: l1, x, h => by
    simp only [List.cons_append, topo, Bool.and_eq_true] at h ⊢
    obtain ⟨o, ho, hd⟩ := depsOK_iff.1 h.1
    refine ⟨depsOK_iff.2 ⟨o, ho, fun e he hb => getD_set_true (hd e he hb)⟩, ?_⟩
    have := topo_pull l1 _ h.2
    by_cases hje : j = e
    · subst hje
      exact this
    · rw [Array.setIfInBounds_comm _ _ (fun h => hje h.symm)]
      exact this
theorem pairsF_pull {e : Nat × List Nat} {l2 : List (Nat × List Nat)} : ∀ (l1 : List (Nat × List Nat)), pairsF md ops (l1 ++ e :: l2) = true → pairsF md ops (l1 ++ l2) = true ∧ ∀ x ∈ l1, pairF md ops x e = true
  | [], h => by
    simp only [List.nil_append, pairsF, Bool.and_eq_true] at h
    exact ⟨h.2, fun x hx => by cases hx⟩
  | y :: l1, h => by
    simp only [List.cons_append, pairsF, Bool.and_eq_true, List.all_append, List.all_cons] at h ⊢
    obtain ⟨⟨h1, h2, h3⟩, h4⟩ := h
    obtain ⟨k1, k2⟩ := pairsF_pull l1 h4
    refine ⟨⟨⟨h1, h3⟩, k1⟩, fun x hx => ?_⟩
    rcases List.mem_cons.1 hx with rfl | hx
    · exact h2
    · exact k2 x hx
/-- Any order. -/
theorem wpAny_seqF {Q : Act → Facts → Prop} {Q' : Exit → Act → World → Prop} {M : List Nat} {base : Array Bool} {g : Nat} (hR : Rely R) (hQm : ∀ a Fs Fs', (∀ p ∈ Fs, p ∈ Fs') → Q a Fs → Q a Fs') (hsel : ∀ (j : Nat) (o : Oper) cs b, ops[j]? = some o → o.op ≠ .select cs b)
    (hc : closedB md ops base M = true) (fin : Array Bool) (hfin : ∀ listed : Array Bool, Inv md ops M base listed → (∀ j ∈ M, listed.getD j true = true) → listed = fin)
    (hQ : ∀ a Fs w, R w0 w → (∀ p ∈ Fs, p.2 w) → Q a Fs → wpAny P md ops Q' g fin a w) :
    ∀ (n : Nat) (l : List Elt) (listed : Array Bool) (a : Act) (Fs : Facts) (w : World), l.length = n → Inv md ops M base listed → (∀ x ∈ l, x.1 ∈ M ∧ listed.getD x.1 true = false) → (∀ j ∈ M, listed.getD j true = false → ∃ x ∈ l, x.1 = j) → (l.map (·.1)).Nodup →
      topo md ops (l.map (·.1)) listed = true → pairsF md ops (l.map fun x => (x.1, x.2.1)) = true → (∀ x ∈ l, ∀ T, x.2.2 = some T → Stable R T) → R w0 w → (∀ p ∈ Fs, p.2 w) → (∀ p ∈ Fs, ∀ w w', R w w' → p.2 w → p.2 w') →
      seqF P ops R w0 Q l a Fs → wpAny P md ops Q' (n + g) listed a w := by
  intro n
  induction n with
  | zero =>
    intro l listed a Fs w hl inv hm1 hm2 _ _ _ _ hw hF _ h
    obtain rfl := List.eq_nil_of_length_eq_zero hl
    have : listed = fin := hfin listed inv fun j hj => by
      cases hj' : listed.getD j true
      · obtain ⟨x, hx, _⟩ := hm2 j hj hj'
        cases hx
      · rfl
    subst this
    rw [Nat.zero_add]
    exact hQ a Fs w hw hF h
  | succ n ih =>
    intro l listed a Fs w hl inv hm1 hm2 hnd htopo hpair hst hw hF hFs h
    rw [show n + 1 + g = (n + g) + 1 by omega]
    have hne : Region.ready md ops listed ≠ [] := fun h0 => by
      cases l with
      | nil => cases hl
      | cons x l =>
        simp only [List.map_cons, topo, Bool.and_eq_true] at htopo
        obtain ⟨o, ho, hd⟩ := depsOK_iff.1 htopo.1
        have : x.1 ∈ Region.ready md ops listed := mem_ready.2 ⟨(hm1 x List.mem_cons_self).2, o, ho, hd⟩
        rw [h0] at this
        cases this
    refine ⟨fun h0 => absurd h0 hne, fun i hi => ?_⟩
    have hil : ∃ x ∈ l, x.1 = i := by
      cases l with
      | nil => cases hl
      | cons y l0 =>
        have hy := hm1 y List.mem_cons_self
        exact hm2 i (inv.stays hc hy.1 hy.2 hi) (mem_ready.1 hi).1
    obtain ⟨e, he, rfl⟩ := hil
    obtain ⟨l1, l2, rfl⟩ := List.append_of_mem he
    obtain ⟨hun, oe, hoe, hall⟩ := mem_ready.1 hi
    simp only [List.map_append, List.map_cons] at hpair htopo hnd
    obtain ⟨hp1, hp2⟩ := pairsF_pull _ hpair
    have hap : ∀ x ∈ l1, apartF ops (x.1, x.2.1) (e.1, e.2.1) := fun x hx => by
      have h1 := hp2 _ (List.mem_map_of_mem hx)
      unfold pairF at h1
      have hxl := hm1 x (List.mem_append_left _ hx)
      simp only [hoe] at h1
      cases hox : ops[x.1]? with
      | none => simp only [hox] at h1; cases h1
      | some ox =>
        simp only [hox, Bool.or_eq_true, Bool.and_eq_true] at h1
        rcases h1 with h1 | ⟨h1, h2⟩
        · exfalso
          obtain ⟨d, hd, hdd⟩ := Array.any_eq_true'.1 h1
          simp only [Bool.and_eq_true, beq_iff_eq] at hdd
          have h3 := hall d hd hdd.1
          rw [hdd.2, getD_both hxl.2] at h3
          cases h3
        · exact ⟨ox, oe, hox, hoe, h1, by simpa using h2⟩
    have hpl := seqF_pull hR hQm hsel e l2 l1 a Fs hap h
    have inv' := inv.set (hm1 e he).1 hi
    have hsz : e.1 < listed.size := by
      rw [inv.size]
      exact (Array.getElem?_eq_some_iff.1 hoe).1
    have hnm : ∀ x ∈ l1 ++ l2, x.1 ≠ e.1 := fun x hx heq => by
      rw [List.nodup_append] at hnd
      obtain ⟨n1, n2, n3⟩ := hnd
      rcases List.mem_append.1 hx with hx | hx
      · exact n3 _ (List.mem_map_of_mem hx) _ List.mem_cons_self heq
      · exact (List.nodup_cons.1 n2).1 (by rw [← heq]; exact List.mem_map_of_mem hx)
    have step : ∀ (a' : Act) (Fs' : Facts) (w' : World), R w0 w' → (∀ p ∈ Fs', p.2 w') → (∀ p ∈ Fs', ∀ w w', R w w' → p.2 w → p.2 w') → seqF P ops R w0 Q (l1 ++ l2) a' Fs' → wpAny P md ops Q' (n + g) (listed.setIfInBounds e.1 true) a' w' := fun a' Fs' w' hw' hF' hFs' hs' => by
      refine ih (l1 ++ l2) _ a' Fs' w' (by simp at hl ⊢; omega) inv' (fun x hx => ⟨?_, ?_⟩) (fun j hj hju => ?_) ?_ ?_ ?_ (fun x hx => ?_) hw' hF' hFs' hs'
      · exact (hm1 x (by rcases List.mem_append.1 hx with h | h; exact List.mem_append_left _ h; exact List.mem_append_right _ (List.mem_cons_of_mem _ h))).1
      · rw [getD_set_ne true (Ne.symm (hnm x hx))]
        exact (hm1 x (by rcases List.mem_append.1 hx with h | h; exact List.mem_append_left _ h; exact List.mem_append_right _ (List.mem_cons_of_mem _ h))).2
      · have hje : e.1 ≠ j := fun heq => by
          subst heq
          simp [hsz] at hju
        rw [getD_set_ne true hje] at hju
        obtain ⟨x, hx, hxj⟩ := hm2 j hj hju
        refine ⟨x, ?_, hxj⟩
        rcases List.mem_append.1 hx with h | h
        · exact List.mem_append_left _ h
        · rcases List.mem_cons.1 h with rfl | h
          · exact absurd hxj hje
          · exact List.mem_append_right _ h
      · rw [List.map_append]
        rw [List.nodup_append] at hnd ⊢
        obtain ⟨n1, n2, n3⟩ := hnd
        exact ⟨n1, (List.nodup_cons.1 n2).2, fun x hx y hy => n3 x hx y (List.mem_cons_of_mem _ hy)⟩
      · rw [List.map_append]
        exact topo_pull _ _ htopo
      · rw [List.map_append]
        exact hp1
      · exact hst x (by rcases List.mem_append.1 hx with h | h; exact List.mem_append_left _ h; exact List.mem_append_right _ (List.mem_cons_of_mem _ h))
    obtain ⟨j, ln, T⟩ := e
    cases T with
    | none =>
      obtain ⟨o, v, m1, m2, m3, m4⟩ := hpl
      exact wpOp_calm2 (C := R w0) (by unfold calmAt2; rw [m1]; exact m2) hw (fun a' ha' => step a' Fs w hw hF hFs ha') (m3.qOp m1 m4)
    | some T =>
      obtain ⟨o, m1, m2, m3, m4, m5⟩ := hpl
      have hsT := hst _ he T rfl
      have fin2 : ∀ v w', R w w' → T v w' → wpAny P md ops Q' (n + g) (listed.setIfInBounds j true) (a.put o.dst v) w' := fun v w' hww hTv =>
        step _ _ w' (hR.trans hw hww) (fun p hp => by
          rcases List.mem_cons.1 hp with rfl | hp
          · exact hTv
          · exact hFs p hp _ _ hww (hF p hp)) (fun p hp => by
          rcases List.mem_cons.1 hp with rfl | hp
          · exact fun w1 w2 h12 h1 => hsT _ _ _ h12 h1
          · exact hFs p hp) (m5 v ⟨w', hTv⟩)
      unfold wpOp
      simp only [m1]
      rw [if_pos m2]
      refine .inl ?_
      have hgw := m4 w hw (fun p hp _ => hF p hp)
      unfold Oper.wp
      generalize (execOp a.eval o).run P w = r at *
      cases r with
      | ok m w' =>
        cases m <;> simp only [gives] at hgw <;> simp only [Oper.upon]
        case value u => exact fin2 u w' hgw.1 hgw.2
        case skip => exact fin2 undef w' hgw.1 hgw.2
        case enter f' args =>
          obtain ⟨rfl, hcall⟩ := hgw
          exact hcall.mono fun e w'' ⟨v, he, h1, h2⟩ => by subst he; exact fin2 v w'' h1 h2
      | halt q w' => simp only [gives] at hgw
theorem seqF_reads {Q : Act → Facts → Prop} {rest : List Elt} {Fs : Facts} : ∀ (r : List Nat) (a : Act) (K : Act → Prop), (∀ i ∈ r, calmAt2 ops i = true) → wpQuiet P ops (R w0) K (r.filterMap (ops[·]?)) a → (∀ a', K a' → seqF P ops R w0 Q rest a' Fs) →
    seqF P ops R w0 Q (r.map (fun i => ((i, [], none) : Elt)) ++ rest) a Fs
  | [], a, K, _, h, hk => hk a h
  | i :: r, a, K, hc, h, hk => by
    have hci := hc i List.mem_cons_self
    unfold calmAt2 at hci
    cases ho : ops[i]? with
    | none => rw [ho] at hci; cases hci
    | some o =>
      rw [ho] at hci
      have hstp : qOp P ops (R w0) i (wpQuiet P ops (R w0) K (r.filterMap (ops[·]?))) a := by
        unfold qOp
        simp only [ho]
        rw [List.filterMap_cons_some ho] at h
        exact h
      obtain ⟨v, hy, hK⟩ := yieldsIn_of_qOp ho hstp
      exact ⟨o, v, ho, hci, hy, seqF_reads r _ K (fun j hj => hc j (List.mem_cons_of_mem _ hj)) hK hk⟩
end
/-- Reads, and then one that makes memory, with what it leans on. -/
abbrev FItem := List Nat × Nat × List Nat × (Value → World → Prop)
def flatF (S : List FItem) : List Elt := S.flatMap fun s => s.1.map (fun i => ((i, [], none) : Elt)) ++ [(s.2.1, s.2.2.1, some s.2.2.2)]
def idxF (S : List (List Nat × Nat × List Nat)) : List (Nat × List Nat) := S.flatMap fun s => s.1.map (fun i => (i, [])) ++ [(s.2.1, s.2.2)]
theorem flatF_idx (S : List FItem) : (flatF S).map (fun x => (x.1, x.2.1)) = idxF (S.map fun s => (s.1, s.2.1, s.2.2.1)) := by
  induction S with
  | nil => rfl
  | cons s S ih =>
    simp only [flatF, idxF, List.map_cons, List.flatMap_cons, List.map_append] at ih ⊢
    rw [ih]
    simp
theorem flatF_fst (S : List FItem) : (flatF S).map (·.1) = (idxF (S.map fun s => (s.1, s.2.1, s.2.2.1))).map (·.1) := by
  rw [← flatF_idx, List.map_map]
  rfl
def holdsF (ln : List Nat) : Facts → World → Prop
  | [], _ => True
  | (i, f) :: Fs, w => (ln.contains i = true → f w) ∧ holdsF ln Fs w
def allF : Facts → World → Prop
  | [], _ => True
  | (_, f) :: Fs, w => f w ∧ allF Fs w
theorem holdsF_of (ln : List Nat) (w : World) : ∀ Fs, Fits ln Fs w → holdsF ln Fs w
  | [], _ => trivial
  | (i, f) :: Fs, h => ⟨fun hi => h _ List.mem_cons_self (by simpa using hi), holdsF_of ln w Fs fun p hp => h p (List.mem_cons_of_mem _ hp)⟩
theorem allF_of (w : World) : ∀ Fs : Facts, (∀ p ∈ Fs, p.2 w) → allF Fs w
  | [], _ => trivial
  | (_, _) :: Fs, h => ⟨h _ List.mem_cons_self, allF_of w Fs fun p hp => h p (List.mem_cons_of_mem _ hp)⟩
theorem of_allF (w : World) : ∀ Fs : Facts, allF Fs w → ∀ p ∈ Fs, p.2 w
  | (_, _) :: Fs, h, p, hp => by
    rcases List.mem_cons.1 hp with rfl | hp
    · exact h.1
    · exact of_allF w Fs h.2 p hp
def wpFItem (P : Program) (l : List Oper) (i : Nat) (ln : List Nat) (T : Value → World → Prop) (w : World) (K : Act → Facts → Prop) (Fs : Facts) (a : Act) : Prop :=
  ∃ o, l.toArray[i]? = some o ∧ Region.wanted o (yielded l.toArray a.tmps) = true ∧ (∃ v w', T v w') ∧ (∀ w', GR w w' → holdsF ln Fs w' → gives P GR T w' ((execOp a.eval o).run P w')) ∧ ∀ v, (∃ w, T v w) → K (a.put o.dst v) ((i, T v) :: Fs)
/-- As a walk meets it. -/
def wpFreeR (P : Program) (l : List Oper) (w : World) (Q : Act → Facts → Prop) : List FItem → Act → Facts → Prop
  | [], a, Fs => Q a Fs
  | (r, i, ln, T) :: rest, a, Fs => wpQuiet P l.toArray (fun w' => ∃ p : Grew, w' = grew w p) (wpFItem P l i ln T w (wpFreeR P l w Q rest) Fs) (pick l r) a
theorem freeR_cons {P : Program} {l : List Oper} {w : World} {Q : Act → Facts → Prop} {r : List Nat} {i : Nat} {ln : List Nat} {T : Value → World → Prop} {rest : List FItem} {a : Act} {Fs : Facts} (h : wpQuiet P l.toArray (fun w' => ∃ p : Grew, w' = grew w p) (wpFItem P l i ln T w (wpFreeR P l w Q rest) Fs) (pick l r) a) : wpFreeR P l w Q ((r, i, ln, T) :: rest) a Fs := h
theorem seqF_of_free {P : Program} {l : List Oper} {w : World} {Q : Act → Facts → Prop} : ∀ (S : List FItem) (a : Act) (Fs : Facts), (∀ s ∈ S, ∀ i ∈ s.1, i < l.length ∧ calmAt2 l.toArray i = true) → wpFreeR P l w Q S a Fs → seqF P l.toArray GR w Q (flatF S) a Fs
  | [], _, _, _, h => h
  | (r, i, ln, T) :: S, a, Fs, hS, h => by
    have h0 := hS _ List.mem_cons_self
    unfold wpFreeR at h
    rw [← pick_eq l r (List.all_eq_true.2 fun j hj => by simpa using (h0 j hj).1)] at h
    show seqF P l.toArray GR w Q ((r.map (fun i => ((i, [], none) : Elt)) ++ [(i, ln, some T)]) ++ flatF S) a Fs
    rw [List.append_assoc]
    refine seqF_reads r a _ (fun j hj => (h0 j hj).2) h fun a' ⟨o, k1, k2, k3, k4, k5⟩ => ?_
    exact ⟨o, k1, k2, k3, fun w' hw hf => k4 w' hw (holdsF_of _ _ _ hf), fun v hv => seqF_of_free S _ _ (fun s hs => hS s (List.mem_cons_of_mem _ hs)) (k5 v hv)⟩
/-- What the kernel looks at. -/
def freeB (ops : Array Oper) (n : Nat) (S : List (List Nat × Nat × List Nat)) (T : List Nat) : Bool :=
  (S.all fun s => s.1.all fun i => decide (i < n) && calmAt2 ops i) && T.all (fun i => decide (i < n)) && Region.noSelect ops && closedB .any ops (Array.replicate n false) ((idxF S).map (·.1)) && decide ((idxF S).map (·.1)).Nodup && pairsF .any ops (idxF S) && decide ((idxF S).length + T.length = n) && seqL .any ops T (lay (Array.replicate n false) ((idxF S).map (·.1)))
/-- A REGION THAT DRAWS ITS ORDER: what S tells, in whatever order, then a tail T in its order. -/
theorem wp_region_free {P : Program} {id : Nat} {Q : Exit → Act → World → Prop} {a : Act} {w : World} {l : List Oper} (S : List FItem) (T : List Nat) (hm : P.follows .mixedOrders = true)
    (hB : freeB l.toArray l.length (S.map fun s => (s.1, s.2.1, s.2.2.1)) T = true) (hst : ∀ s ∈ S, Stable GR s.2.2.2)
    (h : wpFreeR P l w (fun a'' Fs => ∀ w', GR w w' → allF Fs w' → wpList P l.toArray Q (pick l T) a'' w') S a []) : (Code.region id l.toArray true).wp P Q a w := by
  simp only [freeB, Bool.and_eq_true, decide_eq_true_eq] at hB
  obtain ⟨⟨⟨⟨⟨⟨⟨b1, b2⟩, b3⟩, b4⟩, b5⟩, b6⟩, b7⟩, b8⟩ := hB
  rw [← pick_eq l T b2] at h
  obtain ⟨M, hM⟩ : ∃ M, (idxF (S.map fun s => (s.1, s.2.1, s.2.2.1))).map (·.1) = M := ⟨_, rfl⟩
  have hMf : (flatF S).map (·.1) = M := by rw [flatF_fst, hM]
  have hlen : (flatF S).length + T.length = l.length := by
    rw [← b7, ← flatF_idx, List.length_map]
  rw [hM] at b4 b5 b8
  have hseq := seqF_of_free S a [] (fun s hs i hi => by
    have := List.all_eq_true.1 (List.all_eq_true.1 b1 _ (List.mem_map_of_mem hs)) i hi
    simpa using this) h
  have hbsz : (Array.replicate l.length false).size = l.toArray.size := by simp
  have htopo : topo .any l.toArray M (Array.replicate l.length false) = true := by
    unfold closedB at b4
    simp only [Bool.and_eq_true] at b4
    exact b4.1
  have hMlt : ∀ j ∈ M, j < l.toArray.size := by
    have key : ∀ (L : List Nat) (acc : Array Bool), topo .any l.toArray L acc = true → ∀ k ∈ L, k < l.toArray.size := by
      intro L
      induction L with
      | nil => intro acc _ k hk; cases hk
      | cons k0 L ih =>
        intro acc ht k hk
        simp only [topo, Bool.and_eq_true] at ht
        rcases List.mem_cons.1 hk with rfl | hk
        · obtain ⟨o, ho, _⟩ := depsOK_iff.1 ht.1
          exact (Array.getElem?_eq_some_iff.1 ho).1
        · exact ih _ ht.2 k hk
    exact key M _ htopo
  refine wp_region_start hm ?_
  rw [show l.length = (flatF S).length + T.length from hlen.symm]
  rw [show (Array.replicate ((flatF S).length + T.length) false) = Array.replicate l.length false by rw [hlen]]
  refine wpAny_seqF (M := M) (base := Array.replicate l.length false) rely_gr (fun a Fs Fs' hs hq w' hw hF => hq w' hw (allF_of w' Fs fun p hp => of_allF w' Fs' hF p (hs p hp))) (Region.noSelect_spec b3) b4 (lay (Array.replicate l.length false) M) (fun listed inv hall => ?_) (fun a Fs w' hw hF hq => wpAny_of_seqL T _ a w' b8 (hq w' hw (allF_of w' Fs hF))) _ (flatF S) _ a [] _ rfl (Inv.refl hbsz) (fun x hx => ⟨by rw [← hMf]; exact List.mem_map_of_mem hx, ?_⟩) (fun j hj _ => by
      rw [← hMf] at hj
      obtain ⟨x, hx, rfl⟩ := List.mem_map.1 hj
      exact ⟨x, hx, rfl⟩) (by rw [hMf]; exact b5) (by rw [hMf]; exact htopo) (by rw [flatF_idx]; exact b6) (fun x hx T' hT => ?_) (GR.of (Below.refl _ _).drew) (fun p hp => by cases hp) (fun p hp => by cases hp) hseq
  · refine Array.ext (by rw [inv.size, lay_size, hbsz]) fun j h1 h2 => ?_
    have e1 : listed[j] = listed.getD j true := by simp [h1]
    have e2 : (lay (Array.replicate l.length false) M)[j] = (lay (Array.replicate l.length false) M).getD j true := by simp [h2]
    rw [e1, e2]
    by_cases hj : j ∈ M
    · rw [hall j hj, getD_swap (by exact h2)]
      exact (lay_in M _ j hj (by rw [hbsz]; exact hMlt j hj)).symm
    · rw [inv.out j hj, lay_out M _ j hj]
  · have : x.1 < l.length := by
      have := hMlt x.1 (by rw [← hMf]; exact List.mem_map_of_mem hx)
      simpa using this
    simp [this]
  · obtain ⟨s, hs, hx⟩ := List.mem_flatMap.1 hx
    rcases List.mem_append.1 hx with hx | hx
    · obtain ⟨i, _, rfl⟩ := List.mem_map.1 hx
      cases hT
    · rw [List.mem_singleton.1 hx] at hT
      injection hT with hT
      rw [← hT]
      exact hst s hs
end Batch
end Go.Proofs.YtgalhnobckoneaaGreatDoor
