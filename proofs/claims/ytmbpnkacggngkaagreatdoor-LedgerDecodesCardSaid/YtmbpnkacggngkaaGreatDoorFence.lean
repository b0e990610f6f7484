/- WORDS FOR A RANGE OVER A FUNCTION whose iterator hands out bytes of its own: one law for the statement; a drawn region inside a round. -/
import Derived.Test.YtmbpnkacggngkaaGreatDoorMem
import Derived.Test.YtmbpnkacggngkaaGreatDoorArr
import Derived.RangeFuncNested
import Derived.RangeFuncBound
import Derived.RangeFuncCalls
import Derived.RangeFuncLeaves
import Derived.Shelf.Abstract
import Derived.Shelf.RegionOpen
import Derived.OwnWalkIn
import Derived.OrdersHeld
import Derived.TacticsInMore
import Derived.LoopNIn
import Derived.LoopIn
namespace Go.Proofs.YtmbpnkacggngkaaGreatDoor
open Go.RowKit Mem

section
variable {P : Program} {ops : Array Oper} {Q : Exit → Act → World → Prop} {md : Region.Mode} {S : World → Prop} {l n : Nat}
/-- What an operation does by itself it does in a round, too. -/
theorem op_in_round {o : Oper} {a : Act} {w : World} {K : Act → World → Prop} (hd : ∀ c, o.op ≠ .defer c) (h : o.wp P a w K Q) : o.wpIn (Fence.wide.inRound l) n P a w K Q := by
  refine ⟨fun _ _ => trivial, ?_⟩
  rw [Oper.semAt_eq _ _ _ hd]
  unfold Oper.wp at h
  generalize (execOp a.eval o).run P w = r at h ⊢
  cases r with
  | halt x w' => cases x <;> exact h
  | ok x w' =>
    cases x with
    | value v => exact h
    | skip => exact h
    | defer d => exact h
    | enter f args => exact ⟨fun hx => (by cases hx), CallsIn.inRound l (callsIn_wide.2 h)⟩
    | row r args =>
      refine ⟨fun hx => (by cases hx), fun c cs _ => ?_⟩
      obtain ⟨v, w2, hr, hs⟩ := h c cs
      exact ⟨v, w2, hr, stepsIn_wide.2 hs⟩
    | _ => exact h.elim
theorem any_in_round (hd : ∀ (i : Nat) (o : Oper) c, ops[i]? = some o → o.op ≠ .defer c) (hq : ¬ LetsOut Q) : ∀ (fuel : Nat) (listed : Array Bool) (a : Act) (w : World),
    wpAny P md ops Q fuel listed a w → wpAnyIn (Fence.wide.inRound l) n P md ops Q fuel listed a w
  | 0, _, _, _, h => h
  | fuel + 1, listed, a, w, h => by
    refine ⟨h.1, fun i hi => ?_⟩
    have h1 := h.2 i hi
    unfold wpOp at h1
    unfold wpOpIn
    cases ho : ops[i]? with
    | none =>
      rw [ho] at h1
      exact any_in_round hd hq fuel _ a w h1
    | some o =>
      rw [ho] at h1
      simp only at h1 ⊢
      split
      · rename_i hw
        rw [if_pos hw] at h1
        rcases h1 with h1 | ⟨_, h1⟩
        · exact Oper.wpIn_mono (fun a' w' h2 => any_in_round hd hq fuel _ a' w' h2) (op_in_round (hd i o · ho) h1)
        · exact absurd h1 hq
      · rename_i hw
        rw [if_neg hw] at h1
        exact ⟨fun _ _ => trivial, any_in_round hd hq fuel _ _ _ h1⟩
/-- A region that draws its order, in a round: by the laws of a region by itself. -/
theorem region_in_round {id : Nat} {a : Act} {w : World} (hm : P.follows .mixedOrders = true) (hd : (List.range ops.size).all (fun i => match ops[i]? with | some o => (match o.op with | .defer _ => false | _ => true) | none => true) = true) (hq : ¬ LetsOut Q)
    (h : wpAnyH P .any ops Q S ops.size (Array.replicate ops.size false) a { w with drawn := w.drawn + 1 }) : (Code.region id ops true).wpIn (Fence.wide.inRound l) n P Q a w := by
  refine wpIn_region_any hm (any_in_round (fun i o c ho hc => ?_) hq _ _ _ _ (wpAny_of_held _ _ _ _ h))
  have hi : i < ops.size := (Array.getElem?_eq_some_iff.1 ho).1
  have := List.all_eq_true.1 hd i (List.mem_range.2 hi)
  rw [ho] at this
  simp only [hc] at this
  cases this
end

/-- 'append(out, xs...)' in a fence: out is the call's own, xs is read. -/
theorem wpListIn_append {F : Fence} {n : Nat} {P : Program} (w : World) {ops : Array Oper} {rest : List Oper} {o : Oper} {a : Act} {Q : Exit → Act → World → Prop} (hgd : o.guard = none) (s x : Operand) (t : TypeId)
    (ho : o.op = .call { callee := .builtin .append, args := #[s, x], argTypes := #[t, t] })
    (base : Nat) (e : TypeId) (i : TypeInfo) (z : Value) (size bytes : Nat) (ht : P.underlying t = some (.slice e)) (hi : P.info? e = some i) (hz : i.zero = some z)
    (hsize : i.size = size) (hby : i.bytes = bytes) (hzs : z.cells.size = size) (hsz : 0 < size)
    (v : Value) (k : Nat) (xs : List Value) (hs : a.eval s = v) (hown : w.ownsRow base e size v k xs)
    (B : Nat) (A : Option Addr) (m c : Nat) (news : List Value) (hx : a.eval x = .slice A m c) (hr : Vs w B size A m news) (h1 : ∀ u ∈ news, u.oneCell' = true)
    (h63 : k + m ≤ maxLen) (hbytes : (k + m) * bytes ≤ 140737488355328) (hbase : base ≤ w.heap.size)
    (h : ∀ A' c' w', w'.ownsRow base e size (.slice A' (k + m) c') (k + m) (xs ++ news) → k + m ≤ c' → c' ≤ 9223372036854775807 → w.grownBy w' v.ownBlock → wpListIn F n P ops Q rest (a.put o.dst (.slice A' (k + m) c')) w') : wpListIn F n P ops Q (o :: rest) a w := by
  refine wpListIn_plain hgd fun K hK => ?_
  obtain ⟨v', w', hrun, h2, h3, _⟩ := run_append (P := P) w base t o.type e i z size bytes ht hi hz hsize hby hzs hsz v k xs hown B A m c news hr h1 h63 hbytes hbase
  obtain ⟨A', c', rfl, g1, g2⟩ := own_form h2
  have hnd : ∀ c, o.op ≠ .defer c := by rw [ho]; intro c hc; cases hc
  refine ⟨?_, ?_⟩
  · simp [Oper.about, ho, resolve, Target.leads, Sem.run_pure]
  · rw [Oper.semAt_eq _ _ _ hnd]
    simp only [execOp, ho, resolve, invoke, builtin, Sem.run_bind, Sem.run_pure, Result.andThen_ok, List.map_toArray, List.map_cons, List.map_nil, hs, hx, hrun]
    exact hK _ _ (h A' c' w' h2 g1 g2 h3)

theorem chg_putObj (W : World) (r : Nat) (o : Obj) : Chg [r] W (W.putObj r o) := ⟨rfl, rfl, rfl, by simp, fun k _ hk => World.putObj_heap_other (by simpa using hk)⟩

/-- An iterator that hands out N values, one by one: 'val v W k': v is the k-th, in world W. What a round writes lies in Sb. -/
def Hands (P : Program) (gf : Nat) (lb : Array Value) (N : Nat) (Sb : List Nat) (val : Value → World → Nat → Prop) (l : Nat) (W : World) : Prop :=
  ∀ (J : Nat → World → Prop) (Jx : World → Prop), (∀ k W1 W2, J k W1 → Below W1.heap.size W1 W2 → J k W2) →
    (∀ k v W1, k < N → J k W1 → val v W1 k → YieldAt Fence.wide 5 P l #[v] W1 fun e W2 => (e = .returned (.bool true) ∧ J (k + 1) W2 ∧ Chg Sb W1 W2) ∨ (e = .returned (.bool false) ∧ Jx W2)) →
    J 0 W → CallsIn Fence.wide 6 P gf (#[.func (.yield l) #[] #[]] ++ lb) W fun e W2 => (∃ v, e = .returned v) ∧ (J N W2 ∨ Jx W2)

/-- How a round's body may be left. -/
def BodyPost (Sb : List Nat) (I : World → Prop) (Ix : Code → World → Prop) (W : World) : Exit → Act → World → Prop
  | .normal, _, W' => Chg Sb W W' ∧ I W'
  | .ret, _, W' => Chg Sb W W' ∧ Ix .ret W'
  | _, _, _ => False

/-- 'for x := range g': the invariant is the caller's own; what a round writes lies in Sb, and neither the loop's record nor the block of deferred calls is among it. -/
theorem range_law {P : Program} {g : Operand} {p : Tmp} {assign body : Code} {Q : Exit → Act → World → Prop} {a : Act} {w : World} {gf : Nat} {lb : Array Value} (hg : a.eval g = .func (.func gf) #[] lb)
    (eg : ∀ args w, (callFunc gf args).run P w = .ok (.enter gf args) w) {N : Nat} {Sb : List Nat} {val : Value → World → Nat → Prop} (hSb : ∀ s, s ∈ Sb → s < w.heap.size)
    (hands : ∀ W, Chg [] w W → w.heap.size + 2 ≤ W.heap.size → Hands P gf lb N ((w.heap.size + 1) :: Sb) val (w.heap.size + 1) W)
    (I : Nat → World → Prop) (Ix : Code → World → Prop) (hI : ∀ k W W', I k W → Chg [w.heap.size, w.heap.size + 1] W W' → I k W') (hIx : ∀ c W W', Ix c W → Chg [w.heap.size, w.heap.size + 1] W W' → Ix c W') (h0 : I 0 w)
    (hval : ∀ v W W' k, val v W k → Chg [w.heap.size + 1] W W' → val v W' k)
    (a₁ : Value → Act)
    (hassign : ∀ (l : Nat) (v : Value) (W : World) (K : Act → World → Prop), K (a₁ v) W → assign.wpIn (Fence.wide.inRound l) 5 P (Exit.then K (fun _ _ _ => False)) { tmps := a.tmps.setIfInBounds p v, defers := [] } W)
    (hbody : ∀ (l k : Nat) (v : Value) (W : World), k < N → I k W → val v W k → body.wpIn (Fence.wide.inRound l) 5 P (BodyPost Sb (I (k + 1)) Ix W) (a₁ v) W)
    (hdone : ∀ (W : World), I N W → W.heap[w.heap.size]? = some (.deferred (some [])) → Q .normal { a with defers := { target := .collected w.heap.size, args := #[] } :: a.defers } W)
    (hstop : ∀ (c : Code) (W : World), Ix c W → W.heap[w.heap.size]? = some (.deferred (some [])) → c.wp P Q { a with defers := { target := .collected w.heap.size, args := #[] } :: a.defers } W) :
    (Code.rangeFunc g #[p] assign body).wp P Q a w := by
  refine (wpIn_wide (n := 7)).1 (wpIn_rangeFunc ?_)
  intro fn hfn
  obtain ⟨rec, hrec⟩ : ∃ rec : LoopState → Option Code → Loop, rec = fun st pe => { state := st, pending := pe, fn, tmps := a.tmps, params := #[p], assign, body, defers := w.heap.size } := ⟨_, rfl⟩
  obtain ⟨D, hD⟩ : ∃ D, w.heap.size = D := ⟨_, rfl⟩
  obtain ⟨W1, hW1⟩ : ∃ W1, (w.alloc (.deferred (some []))).alloc (.loop (rec .ready none)) = W1 := ⟨_, rfl⟩
  have hL1 : W1.heap[D + 1]? = some (.loop (rec .ready none)) := by
    rw [← hW1, ← hD]
    have := World.alloc_heap_new (w.alloc (.deferred (some []))) (.loop (rec .ready none))
    rwa [World.size_alloc] at this
  have hD1 : W1.heap[D]? = some (.deferred (some [])) := by
    rw [← hW1, ← hD]
    exact (Below.heap_alloc _ _ _ (by simp)).trans (World.alloc_heap_new w _)
  have hb1 : Below w.heap.size w W1 := by
    rw [← hW1]
    exact ((Below.refl _ w).alloc (Nat.le_refl _) _).alloc (by simp) _
  rw [hD] at hSb hands hI hIx hdone hstop hval
  have keepD : ∀ {W W' : World} {S : List Nat} {r : Nat} {o : Obj}, W.heap[r]? = some o → Chg S W W' → r ∉ S → W'.heap[r]? = some o := fun hr hc hn =>
    (hc.block _ (Array.getElem?_eq_some_iff.1 hr).1 hn).trans hr
  refine ⟨D + 1, [{ target := .collected D, args := #[] }], W1, { target := .fn (.func gf) lb, args := #[.func (.yield (D + 1)) #[] #[]] }, W1, gf, #[.func (.yield (D + 1)) #[] #[]] ++ lb, W1, ?_, ?_, fun _ _ => trivial, ?_, fun hx => (by cases hx), ?_⟩
  · rw [← hW1, hrec, ← hD]
    exact run_enterLoop_outer _ _ _ _ _
  · simp only [resolve, hg]
    simp [go_sem]
  · simp [invoke, go_sem, eg]
  · refine (hands W1 (Chg.of_below hb1) (by rw [← hW1, ← hD]; simp) (fun k W => I k W ∧ W.heap[D + 1]? = some (.loop (rec .ready none)) ∧ W.heap[D]? = some (.deferred (some [])))
      (fun W => ∃ c, Ix c W ∧ W.heap[D + 1]? = some (.loop (rec .done (some c))) ∧ W.heap[D]? = some (.deferred (some []))) ?_ ?_ ?_).mono ?_
    · rintro k Wa Wb ⟨hi, hl, hd⟩ hb
      exact ⟨hI k Wa Wb hi (Chg.of_below hb), keepD hl (Chg.of_below (S := []) hb) (by simp), keepD hd (Chg.of_below (S := []) hb) (by simp)⟩
    · rintro k v Wa hk ⟨hi, hl, hd⟩ hv
      have hlt : D + 1 < Wa.heap.size := (Array.getElem?_eq_some_iff.1 hl).1
      have hy := run_yield (P := P) (args := #[v]) hl (by rw [hrec]; rfl)
      rw [hrec] at hy
      refine ⟨fn, _, assign, body, hy, roundIn_of_wpIn hfn ?_⟩
      have hz : ((#[p] : Array Tmp).zip #[v]).foldl (fun t (x : Tmp × Value) => t.setIfInBounds x.1 x.2) a.tmps = a.tmps.setIfInBounds p v := by simp
      rw [hz]
      refine hassign (D + 1) v Wa _ ⟨_, run_beginRound hl (by rw [hrec]), ?_⟩
      obtain ⟨Wc, hWc⟩ : ∃ Wc, Wa.putObj (D + 1) (.loop { rec .ready none with state := .busy }) = Wc := ⟨_, rfl⟩
      rw [hWc]
      have hcc : Chg [D + 1] Wa Wc := by rw [← hWc]; exact chg_putObj _ _ _
      have hlc : Wc.heap[D + 1]? = some (.loop { rec .ready none with state := .busy }) := by rw [← hWc]; exact World.putObj_heap_same hlt
      have hdc := keepD hd hcc (by simp)
      refine wpIn_mono (hbody (D + 1) k v Wc hk (hI k Wa Wc hi (hcc.mono (by simp))) (hval v Wa Wc k hv hcc)) ?_
      have fin : ∀ (jump : Option Code) (W3 : World), Chg Sb Wc W3 →
          (Instr.endRound (D + 1) jump).run P W3 = .ok (.bool jump.isNone) (W3.putObj (D + 1) (.loop (rec (if jump.isNone then .ready else .done) jump))) ∧
          (W3.putObj (D + 1) (.loop (rec (if jump.isNone then .ready else .done) jump))).heap[D + 1]? = some (.loop (rec (if jump.isNone then .ready else .done) jump)) ∧
          (W3.putObj (D + 1) (.loop (rec (if jump.isNone then .ready else .done) jump))).heap[D]? = some (.deferred (some [])) ∧
          Chg ((D + 1) :: Sb) Wa (W3.putObj (D + 1) (.loop (rec (if jump.isNone then .ready else .done) jump))) := by
        intro jump W3 hc3
        have hn1 : D + 1 ∉ Sb := fun hm => by have := hSb _ hm; omega
        have hn0 : D ∉ Sb := fun hm => by have := hSb _ hm; omega
        have hl3 := keepD hlc hc3 hn1
        have hr := run_endRound (P := P) jump hl3
        refine ⟨by rw [hrec] at hr ⊢; exact hr, World.putObj_heap_same (Array.getElem?_eq_some_iff.1 hl3).1, (World.putObj_heap_other (by omega)).trans (keepD hdc hc3 hn0), ?_⟩
        exact ((hcc.mono (by simp)).and (hc3.mono fun s hs => by simp [hs])).and ((chg_putObj _ _ _).mono (by simp))
      rintro e a3 W3 hp
      cases e with
      | normal =>
        obtain ⟨hc3, hi3⟩ := hp
        obtain ⟨hr, hl4, hd4, hc4⟩ := fin none W3 hc3
        exact ⟨_, _, hr, .inl ⟨rfl, ⟨hI _ _ _ hi3 ((chg_putObj _ _ _).mono (by simp)), hl4, hd4⟩, hc4⟩⟩
      | ret =>
        obtain ⟨hc3, hi3⟩ := hp
        obtain ⟨hr, hl4, hd4, _⟩ := fin (some .ret) W3 hc3
        exact ⟨_, _, hr, .inr ⟨rfl, .ret, hIx _ _ _ hi3 ((chg_putObj _ _ _).mono (by simp)), hl4, hd4⟩⟩
      | exit id => exact hp.elim
      | goto t => exact hp.elim
      | panic ch => exact hp.elim
      | outgrown => exact hp.elim
    · exact ⟨hI 0 w W1 h0 (Chg.of_below (by rw [← hD] at *; exact hb1)), hL1, hD1⟩
    · rintro e W2 ⟨⟨v, rfl⟩, (⟨hi, hl, hd⟩ | ⟨c, hi, hl, hd⟩)⟩
      · have hr := run_endLoop (P := P) hl (by rw [hrec]; simp)
        exact ⟨none, _, by rw [hrec] at hr; exact hr, hdone _ (hI _ _ _ hi ((chg_putObj _ _ _).mono (by simp))) ((World.putObj_heap_other (by omega)).trans hd)⟩
      · have hr := run_endLoop (P := P) hl (by rw [hrec]; simp)
        exact ⟨some c, _, by rw [hrec] at hr; exact hr, wpIn_wide.2 (hstop _ _ (hIx _ _ _ hi ((chg_putObj _ _ _).mono (by simp))) ((World.putObj_heap_other (by omega)).trans hd))⟩
end Go.Proofs.YtmbpnkacggngkaaGreatDoor
