/- THE WALK of an operation that is written. -/
import Derived.Test.YtmbpnkacggngkaaGreatDoorLedStepW
import Derived.Deep.RegionWith
namespace Go.Proofs.YtmbpnkacggngkaaGreatDoor
open Go.RowKit Mem Led

def tx (t : Txt) : Value := .string (str t)
def nm (x : Int) : Value := .int .i64 x
/-- An operation's cells. -/
def opCells (o : Led.Op) (sv kv : Value) : List Value :=
  [nm o.kind, nm o.n, tx o.name, nm o.entry.n, tx o.entry.path, tx o.entry.parent, nm o.entry.ttl, sv, tx o.join.text, tx o.join.name, nm o.join.expires, .bool o.join.used,
   tx o.node.name, tx o.node.key, nm o.node.expires, nm o.node.seq, tx o.node.doc, tx o.key.kid, tx o.key.seed, nm o.key.state, nm o.key.since, tx o.bundle.domain, nm o.bundle.number, kv]
def jv (L : List Jwk) : List Value := (L.map fun k => [tx k.kid, tx k.x]).flatten
/-- An operation's texts are no longer than a string may be. -/
structure Led.Op.Ok (o : Led.Op) : Prop where
  name : o.name.length ≤ 9223372036854775807
  epath : o.entry.path.length ≤ 9223372036854775807
  eparent : o.entry.parent.length ≤ 9223372036854775807
  esels : o.entry.sels.length < 256
  esel : ∀ x ∈ o.entry.sels, x.length ≤ 9223372036854775807
  jtext : o.join.text.length ≤ 9223372036854775807
  jname : o.join.name.length ≤ 9223372036854775807
  nname : o.node.name.length ≤ 9223372036854775807
  nkey : o.node.key.length ≤ 9223372036854775807
  ndoc : o.node.doc.length ≤ 9223372036854775807
  kkid : o.key.kid.length ≤ 9223372036854775807
  kseed : o.key.seed.length ≤ 9223372036854775807
  bdom : o.bundle.domain.length ≤ 9223372036854775807
  bkeys : o.bundle.keys.length < 256
  bkey : ∀ k ∈ o.bundle.keys, k.kid.length ≤ 9223372036854775807 ∧ k.x.length ≤ 9223372036854775807

theorem jv_length : ∀ L : List Jwk, (jv L).length = L.length * 2
  | [] => rfl
  | k :: L => by
    have ih := jv_length L
    unfold jv at ih ⊢
    simp only [List.map_cons, List.flatten_cons, List.length_append, List.length_cons, List.length_nil]
    omega
theorem jv_at0 : ∀ {L : List Jwk} {m : Nat} (h : m < L.length), (jv L)[m * 2]? = some (tx L[m].kid)
  | k :: L, 0, _ => rfl
  | k :: L, m + 1, h => by
    have ih := jv_at0 (L := L) (m := m) (by simpa using h)
    rw [show (m + 1) * 2 = m * 2 + 2 by omega]
    exact ih
theorem jv_at1 : ∀ {L : List Jwk} {m : Nat} (h : m < L.length), (jv L)[m * 2 + 1]? = some (tx L[m].x)
  | k :: L, 0, _ => rfl
  | k :: L, m + 1, h => by
    have ih := jv_at1 (L := L) (m := m) (by simpa using h)
    rw [show (m + 1) * 2 + 1 = m * 2 + 1 + 2 by omega]
    exact ih
theorem flat_key : ∀ (xs : List Jwk) (j : Nat), (((xs.take j).map ekey).flatten).length ≤ j * 131200
  | [], j => by simp
  | _, 0 => by simp
  | x :: xs, j + 1 => by
    have ih := flat_key xs j
    have h := etext_len x.kid
    have h2 := etext_len x.x
    have h3 : (ekey x).length = (etext x.kid).length + (etext x.x).length := by unfold ekey; rw [List.length_append]
    simp only [List.take_succ_cons, List.map_cons, List.flatten_cons, List.length_append]
    omega
theorem le1_mod (x : Int) : le 1 (x % 256) = le 1 x := by simp [le]
theorem name_len (l x : Txt) (C : Nat) (h : x.length ≤ C) : ∃ l', Hid (l ++ x = l') ∧ l'.length ≤ l.length + C := ⟨_, Lib.hid rfl, by rw [List.length_append]; omega⟩
theorem nums_len : ∀ (xs : List Int), ((xs.map (le 8)).flatten).length ≤ xs.length * 8
  | [] => by simp
  | x :: xs => by
    have ih := nums_len xs
    simp only [List.map_cons, List.flatten_cons, List.length_append, le_length, List.length_cons]
    omega
theorem texts_len (xs : List Txt) : ((xs.map etext).flatten).length ≤ xs.length * 65600 := by
  have h := flat_len xs xs.length
  rw [List.take_length] at h
  exact h
set_option maxRecDepth 100000 in
set_option maxHeartbeats 8000000 in
theorem opw_any (o : Led.Op) (ho : o.Ok) (As : Option Addr) (ns cc : Nat) (Ak : Option Addr) (nk ck : Nat) (B gc go : Nat) (T : TypeId) {w : World} (hgo : go < w.heap.size)
    (h : WSt gc [gc, go] [(go, opCells o (.slice As ns cc) (.slice Ak nk ck), T)] w w []) (hs : Vs w B 1 As ns (o.entry.sels.map tx)) (hk : Vs w B 2 Ak nk (jv o.bundle.keys)) (hB1 : B ≤ gc) (hB2 : B ≤ go) (hcS : ns ≤ cc) (hcK : nk ≤ ck) :
    Calls Tryz.prog 35 #[.pointer (some ⟨gc, 0, none⟩), .pointer (some ⟨go, 0, none⟩)] w fun e w' => e = .returned (.tuple #[]) ∧ ∃ v, Wr w' w.heap.size gc v (enc o) ∧ Chg [gc, go] w w' := by
  have hsl : o.entry.sels.length = ns := by
    have := hs.len
    simpa using this
  have hkl : o.bundle.keys.length = nk := by
    have := hk.len
    rw [jv_length] at this
    omega
  have hnS : ns < 256 := by have := ho.esels; omega
  have hnK : nk < 256 := by have := ho.bkeys; omega
  have q1 := num_step 1 1 rfl (by omega) go 0 o.kind h (by simp) ⟨_, _, List.mem_cons_self, rfl⟩ (by simp)
  go_enter Tryz.func35, Tryz.ntmps35
  go_wp2_with fail
  refine q1.mono ?_
  rintro e w1 ⟨rfl, h1⟩
  obtain ⟨l1, e1, b1⟩ := name_len [] (le 1 o.kind) 8 (by rw [le_length]; omega)
  rw [e1.out] at h1
  rw [List.length_nil] at b1
  clear q1 h
  have q2 := numbers_step [(go, 1)] [o.n] 1 h1 (by simp) rfl rfl (by omega) (fun j hj hj' => match j, hj with | 0, _ => ⟨_, _, List.mem_cons_self, rfl⟩) (by omega)
  go_wp2_with fail
  refine q2.mono ?_
  rintro e w2 ⟨rfl, h2⟩
  obtain ⟨l2, e2, b2⟩ := name_len l1 _ 8 (Nat.le_trans (nums_len [o.n]) (by simp))
  rw [e2.out] at h2
  clear q2 h1
  have q3 := texts_step [(go, 2)] [o.name] 1 h2 (by simp) rfl rfl (by omega) (fun j hj hj' => match j, hj with | 0, _ => ⟨_, _, List.mem_cons_self, rfl⟩) (by simpa using ho.name) (by omega)
  go_wp2_with fail
  refine q3.mono ?_
  rintro e w3 ⟨rfl, h3⟩
  obtain ⟨l3, e3, b3⟩ := name_len l2 _ 65600 (Nat.le_trans (texts_len [o.name]) (by simp))
  rw [e3.out] at h3
  clear q3 h2
  have q4 := numbers_step [(go, 3)] [o.entry.n] 1 h3 (by simp) rfl rfl (by omega) (fun j hj hj' => match j, hj with | 0, _ => ⟨_, _, List.mem_cons_self, rfl⟩) (by omega)
  go_wp2_with fail
  refine q4.mono ?_
  rintro e w4 ⟨rfl, h4⟩
  obtain ⟨l4, e4, b4⟩ := name_len l3 _ 8 (Nat.le_trans (nums_len [o.entry.n]) (by simp))
  rw [e4.out] at h4
  clear q4 h3
  have q5 := texts_step [(go, 4), (go, 5)] [o.entry.path, o.entry.parent] 2 h4.drew (by simp) rfl rfl (by omega) (fun j hj hj' => match j, hj with | 0, _ => ⟨_, _, List.mem_cons_self, rfl⟩ | 1, _ => ⟨_, _, List.mem_cons_self, rfl⟩) (by simpa using ⟨ho.epath, ho.eparent⟩) (by omega)
  go_wp2_with fail
  go_region_with (go_at_call 67; refine q5.mono ?_; rintro e w5 ⟨rfl, h5⟩)
  obtain ⟨l5, e5, b5⟩ := name_len l4 _ 131200 (Nat.le_trans (texts_len [o.entry.path, o.entry.parent]) (by simp))
  rw [e5.out] at h5
  clear q5 h4
  have q6 := numbers_step [(go, 6)] [o.entry.ttl] 1 h5 (by simp) rfl rfl (by omega) (fun j hj hj' => match j, hj with | 0, _ => ⟨_, _, List.mem_cons_self, rfl⟩) (by omega)
  go_wp2_with fail
  refine q6.mono ?_
  rintro e w6 ⟨rfl, h6⟩
  obtain ⟨l6, e6, b6⟩ := name_len l5 _ 8 (Nat.le_trans (nums_len [o.entry.ttl]) (by simp))
  rw [e6.out] at h6
  clear q6 h5
  have d7 : w6.cell? ⟨go, 7, none⟩ = some (.slice As ns cc) := (h6.blk (g := go) List.mem_cons_self).cell 7
  have q7 := many_step go 7 ns (F := 68) h6 (by simp) List.mem_cons_self (fun a b c d => manySw_any go 7 As ns cc a b rfl hnS hcS c d (by omega)) (by simp)
  go_wp2_with fail
  refine q7.mono ?_
  rintro e w7 ⟨rfl, h7⟩
  obtain ⟨l7, e7, b7⟩ := name_len l6 (le 1 (ns : Int)) 8 (by rw [le_length]; omega)
  rw [e7.out] at h7
  clear q7 d7 h6
  have d7 : w7.cell? ⟨go, 7, none⟩ = some (.slice As ns cc) := (h7.blk (g := go) List.mem_cons_self).cell 7
  go_wp2
  go_loopw [4, 61] (fun _ i wr => ∃ j : Nat, j ≤ ns ∧ i = .int .i64 j ∧ WSt gc [gc, go] [(go, opCells o (.slice As ns cc) (.slice Ak nk ck), T)] w wr (l7 ++ ((o.entry.sels.take j).map etext).flatten)) (fun _ i _ => ns - (intOf i).toNat)
  case atStart => exact ⟨0, by omega, rfl, by simpa using h7⟩
  case round =>
    obtain ⟨j, hj, rfl, hr⟩ := hrel
    have dr : wr.cell? ⟨go, 7, none⟩ = some (.slice As ns cc) := (hr.blk (g := go) List.mem_cons_self).cell 7
    by_cases hlt : j < ns
    · have hjs : j < o.entry.sels.length := by omega
      obtain ⟨b, off, rfl, hbB, hcell⟩ := Vs.lit hs (by simp; omega)
      have hce := hcell j (tx o.entry.sels[j]) (by simp [hjs])
      have hfl := flat_len o.entry.sels j
      have q := text_old b (off + j) o.entry.sels[j] hr (by simp) hce (by simp; omega) (ho.esel _ (List.getElem_mem hjs)) (by rw [List.length_append]; omega)
      have htk : l7 ++ ((o.entry.sels.take (j + 1)).map etext).flatten = (l7 ++ ((o.entry.sels.take j).map etext).flatten) ++ etext o.entry.sels[j] := by
        rw [← List.take_append_getElem hjs, List.map_append, List.flatten_append, List.append_assoc]
        simp only [List.map_cons, List.map_nil, List.flatten_cons, List.flatten_nil, List.append_nil]
      rw [← htk] at q
      clear htk hfl hce hcell hr
      go_wp2_with fail
      refine q.mono ?_
      rintro e w2 ⟨rfl, hr2⟩
      go_wp2
      go_roundw
      case rel => exact ⟨j + 1, by omega, by go_num, hr2⟩
      case measure => simp [intOf]; omega
    · obtain rfl : j = ns := by omega
      rw [List.take_of_length_le (by omega)] at hr
      have hfl := flat_len o.entry.sels o.entry.sels.length
      rw [List.take_length] at hfl
      obtain ⟨l8, e8, b8⟩ := name_len l7 ((o.entry.sels.map etext).flatten) 16728000 (by omega)
      rw [e8.out] at hr
      clear hfl
      have hju : ∀ ob, (wr.alloc ob).cell? ⟨go, 11, none⟩ = some (.bool o.join.used) := fun ob => ((hr.blk (g := go) List.mem_cons_self).alloc ob).cell 11
      have hgc1 : ¬ go = gc := by
        obtain ⟨v, _, hh, _⟩ := hr
        exact (hh _ List.mem_cons_self).2.2
      have ha := hr.alloc [nm 0] 3
      have hz : w.heap.size ≤ wr.heap.size := by
        obtain ⟨v, _, _, hc⟩ := hr
        exact hc.size
      obtain ⟨gu, hgu⟩ : ∃ gu, wr.heap.size = gu := ⟨_, rfl⟩
      have hu : ∀ b : Bool, o.join.used = b → ∃ wu, (if b then (wr.alloc (.cells #[nm 1] 3)) else (wr.alloc (.cells #[nm 0] 3))) = wu ∧ WSt gc [gc, go] [(gu, [nm (b01 o.join.used)], 3), (go, opCells o (.slice As j cc) (.slice Ak nk ck), T)] w wu l8 := by
        intro b hb
        refine ⟨_, rfl, ?_⟩
        rw [hb, ← hgu]
        cases b
        · exact hr.alloc [nm 0] 3
        · exact hr.alloc [nm 1] 3
      have hgc2 : ¬ gc = go := fun e => hgc1 e.symm
      have hgg : ¬ go = gu := by omega
      have hgg2 : ¬ gu = go := by omega
      have hgl : gc < wr.heap.size := by
        obtain ⟨v, hh, _, _⟩ := hr
        exact hh.blk.lt
      have hgu1 : ¬ gu = gc := by omega
      have hgu2 : ¬ gc = gu := by omega
      cases hb : o.join.used
      · obtain ⟨wu, hwu, hku⟩ := hu false hb
        have hku0 := hku.blk (g := gu) List.mem_cons_self
        rw [hb] at hju
        clear hr ha hu
        have hwu2 : wr.alloc (.cells #[.int .i64 0] 3) = wu := hwu
        have HWU := Lib.hid hwu2
        have HGU := Lib.hid hgu
        have hju2 := hju
        clear hwu hju hwu2 hgu
        go_wp2_with fail
        rw [HWU.out, HGU.out]
        clear hju2
        have q9 := texts_step [(go, 8), (go, 9)] [o.join.text, o.join.name] 2 hku.drew (by simp) rfl rfl (by omega) (fun j hj hj' => match j, hj with | 0, _ => ⟨_, _, (List.mem_cons_of_mem _ List.mem_cons_self), rfl⟩ | 1, _ => ⟨_, _, (List.mem_cons_of_mem _ List.mem_cons_self), rfl⟩) (by simpa using ⟨ho.jtext, ho.jname⟩) (by omega)
        go_region_with (go_at_call 67; refine q9.mono ?_; rintro e w9 ⟨rfl, h9⟩)
        obtain ⟨l9, e9, b9⟩ := name_len l8 _ 131200 (Nat.le_trans (texts_len [o.join.text, o.join.name]) (by simp))
        rw [e9.out] at h9
        clear q9 hku
        have q10 := numbers_step [(go, 10), (gu, 0)] [o.join.expires, (b01 o.join.used)] 2 h9 (by simp) rfl rfl (by omega) (fun j hj hj' => match j, hj with | 0, _ => ⟨_, _, (List.mem_cons_of_mem _ List.mem_cons_self), rfl⟩ | 1, _ => ⟨_, _, List.mem_cons_self, rfl⟩) (by omega)
        go_wp2_with fail
        refine q10.mono ?_
        rintro e w10 ⟨rfl, h10⟩
        obtain ⟨l10, e10, b10⟩ := name_len l9 _ 16 (Nat.le_trans (nums_len [o.join.expires, (b01 o.join.used)]) (by simp))
        rw [e10.out] at h10
        clear q10 h9
        have k0 : w10.cell? ⟨gu, 0, none⟩ = some (.int .i64 0) := by
          have := (h10.blk (g := gu) List.mem_cons_self).cell 0
          rw [hb] at this
          exact this
        have k1 : w10.cell? ⟨go, 11, none⟩ = some (.bool false) := by
          have := (h10.blk (g := go) (List.mem_cons_of_mem _ List.mem_cons_self)).cell 11
          rw [show (opCells o (.slice As j cc) (.slice Ak nk ck))[11]? = some (.bool o.join.used) from rfl, hb] at this
          exact this
        have k2 : w10.frozen? ⟨go, 11, none⟩ = false := (h10.blk (g := go) (List.mem_cons_of_mem _ List.mem_cons_self)).froz 11
        obtain ⟨vc, hvc⟩ := h10.cd
        have k3 : w10.cell? ⟨gc, 2, none⟩ = some (.bool false) := hvc.cell 2
        have k4 : w10.frozen? ⟨gc, 2, none⟩ = false := hvc.froz 2
        obtain ⟨w11, hw11⟩ : ∃ w11, ((w10.setCell ⟨go, 11, none⟩ (.bool false)).setCell ⟨gc, 2, none⟩ (.bool false)) = w11 := ⟨_, rfl⟩
        have h11 : WSt gc [gc, go] [(go, opCells o (.slice As j cc) (.slice Ak nk ck), T)] w w11 l10 := by
          rw [← hw11]
          refine WSt.short ?_ (by simp)
          have hst := (h10.less (K' := [(go, opCells o (.slice As j cc) (.slice Ak nk ck), T)]) (by simp)).store (.inl (by simp)) 11 (.bool false) (by simp)
          rw [set_same (show (opCells o (.slice As j cc) (.slice Ak nk ck))[11]? = some (.bool false) by rw [← hb]; rfl)] at hst
          exact hst
        clear h10 hvc hku0
        go_wp2_with fail
        clear hw11 k0 k1 k2 k3 k4
        have q12 := texts_step [(go, 12), (go, 13)] [o.node.name, o.node.key] 2 h11.drew (by simp) rfl rfl (by omega) (fun j hj hj' => match j, hj with | 0, _ => ⟨_, _, List.mem_cons_self, rfl⟩ | 1, _ => ⟨_, _, List.mem_cons_self, rfl⟩) (by simpa using ⟨ho.nname, ho.nkey⟩) (by omega)
        go_region_with (go_at_call 67; refine q12.mono ?_; rintro e w12 ⟨rfl, h12⟩)
        obtain ⟨l12, e12, b12⟩ := name_len l10 _ 131200 (Nat.le_trans (texts_len [o.node.name, o.node.key]) (by simp))
        rw [e12.out] at h12
        clear q12 h11
        have q13 := numbers_step [(go, 14), (go, 15)] [o.node.expires, o.node.seq] 2 h12.drew (by simp) rfl rfl (by omega) (fun j hj hj' => match j, hj with | 0, _ => ⟨_, _, List.mem_cons_self, rfl⟩ | 1, _ => ⟨_, _, List.mem_cons_self, rfl⟩) (by omega)
        go_wp2_with fail
        go_region_with (go_at_call 66; refine q13.mono ?_; rintro e w13 ⟨rfl, h13⟩)
        obtain ⟨l13, e13, b13⟩ := name_len l12 _ 16 (Nat.le_trans (nums_len [o.node.expires, o.node.seq]) (by simp))
        rw [e13.out] at h13
        clear q13 h12
        have q14 := texts_step [(go, 16), (go, 17), (go, 18)] [o.node.doc, o.key.kid, o.key.seed] 3 h13.drew (by simp) rfl rfl (by omega) (fun j hj hj' => match j, hj with | 0, _ => ⟨_, _, List.mem_cons_self, rfl⟩ | 1, _ => ⟨_, _, List.mem_cons_self, rfl⟩ | 2, _ => ⟨_, _, List.mem_cons_self, rfl⟩) (by simpa using ⟨ho.ndoc, ho.kkid, ho.kseed⟩) (by omega)
        go_wp2_with fail
        go_region_with (go_at_call 67; refine q14.mono ?_; rintro e w14 ⟨rfl, h14⟩)
        obtain ⟨l14, e14, b14⟩ := name_len l13 _ 196800 (Nat.le_trans (texts_len [o.node.doc, o.key.kid, o.key.seed]) (by simp))
        rw [e14.out] at h14
        clear q14 h13
        have q15 := numbers_step [(go, 19), (go, 20)] [o.key.state, o.key.since] 2 h14.drew (by simp) rfl rfl (by omega) (fun j hj hj' => match j, hj with | 0, _ => ⟨_, _, List.mem_cons_self, rfl⟩ | 1, _ => ⟨_, _, List.mem_cons_self, rfl⟩) (by omega)
        go_wp2_with fail
        go_region_with (go_at_call 66; refine q15.mono ?_; rintro e w15 ⟨rfl, h15⟩)
        obtain ⟨l15, e15, b15⟩ := name_len l14 _ 16 (Nat.le_trans (nums_len [o.key.state, o.key.since]) (by simp))
        rw [e15.out] at h15
        clear q15 h14
        have q16 := texts_step [(go, 21)] [o.bundle.domain] 1 h15 (by simp) rfl rfl (by omega) (fun j hj hj' => match j, hj with | 0, _ => ⟨_, _, List.mem_cons_self, rfl⟩) (by simpa using ho.bdom) (by omega)
        go_wp2_with fail
        refine q16.mono ?_
        rintro e w16 ⟨rfl, h16⟩
        obtain ⟨l16, e16, b16⟩ := name_len l15 _ 65600 (Nat.le_trans (texts_len [o.bundle.domain]) (by simp))
        rw [e16.out] at h16
        clear q16 h15
        have q17 := numbers_step [(go, 22)] [o.bundle.number] 1 h16 (by simp) rfl rfl (by omega) (fun j hj hj' => match j, hj with | 0, _ => ⟨_, _, List.mem_cons_self, rfl⟩) (by omega)
        go_wp2_with fail
        refine q17.mono ?_
        rintro e w17 ⟨rfl, h17⟩
        obtain ⟨l17, e17, b17⟩ := name_len l16 _ 8 (Nat.le_trans (nums_len [o.bundle.number]) (by simp))
        rw [e17.out] at h17
        clear q17 h16
        have d18 : w17.cell? ⟨go, 23, none⟩ = some (.slice Ak nk ck) := (h17.blk (g := go) List.mem_cons_self).cell 23
        have q18 := many_step go 23 nk (F := 70) h17 (by simp) List.mem_cons_self (fun a b c d => manyKw_any go 23 Ak nk ck a b rfl hnK hcK c d (by omega)) (by simp)
        go_wp2_with fail
        refine q18.mono ?_
        rintro e w18 ⟨rfl, h18⟩
        obtain ⟨l18, e18, b18⟩ := name_len l17 (le 1 (nk : Int)) 8 (by rw [le_length]; omega)
        rw [e18.out] at h18
        clear q18 d18 h17
        have d18 : w18.cell? ⟨go, 23, none⟩ = some (.slice Ak nk ck) := (h18.blk (g := go) List.mem_cons_self).cell 23
        go_wp2
        go_loopw [6, 192] (fun _ i wr => ∃ m : Nat, m ≤ nk ∧ i = .int .i64 m ∧ WSt gc [gc, go] [(go, opCells o (.slice As j cc) (.slice Ak nk ck), T)] w wr (l18 ++ ((o.bundle.keys.take m).map ekey).flatten)) (fun _ i _ => nk - (intOf i).toNat)
        case atStart => exact ⟨0, by omega, rfl, by simpa using h18⟩
        case round =>
          obtain ⟨m, hm, rfl, hr⟩ := hrel
          have dr : wr.cell? ⟨go, 23, none⟩ = some (.slice Ak nk ck) := (hr.blk (g := go) List.mem_cons_self).cell 23
          by_cases hlt : m < nk
          · have hjs : m < o.bundle.keys.length := by omega
            obtain ⟨b, off, rfl, hbB, hcell⟩ := Vs.lit hk (by rw [jv_length]; omega)
            have hce := hcell (m * 2) (tx o.bundle.keys[m].kid) (jv_at0 hjs)
            have hcx := hcell (m * 2 + 1) (tx o.bundle.keys[m].x) (jv_at1 hjs)
            have hfl := flat_key o.bundle.keys m
            have hkk := ho.bkey _ (List.getElem_mem hjs)
            have q := texts_old b (off + m * 2) o.bundle.keys[m].kid o.bundle.keys[m].x hr.drew (by simp) hce hcx (by simp; omega) hkk.1 hkk.2 (by rw [List.length_append]; omega)
            have htk : l18 ++ ((o.bundle.keys.take (m + 1)).map ekey).flatten = (l18 ++ ((o.bundle.keys.take m).map ekey).flatten) ++ (etext o.bundle.keys[m].kid ++ etext o.bundle.keys[m].x) := by
              rw [← List.take_append_getElem hjs, List.map_append, List.flatten_append, List.append_assoc]
              simp only [List.map_cons, List.map_nil, List.flatten_cons, List.flatten_nil, List.append_nil]
              rfl
            rw [← htk] at q
            clear htk hfl hce hcx hcell hr hkk
            go_wp2_with fail
            go_region_with (go_at_call 67; refine q.mono ?_; rintro e w2 ⟨rfl, hr2⟩)
            all_goals
              go_wp2
              go_roundw
              case rel => exact ⟨m + 1, by omega, by go_num, hr2⟩
              case measure => simp [intOf]; omega
          · obtain rfl : m = nk := by omega
            rw [List.take_of_length_le (by omega)] at hr
            have hfin : l18 ++ (o.bundle.keys.map ekey).flatten = enc o := by
              rw [← e18.out]
              rw [← e17.out]
              rw [← e16.out]
              rw [← e15.out]
              rw [← e14.out]
              rw [← e13.out]
              rw [← e12.out]
              rw [← e10.out]
              rw [← e9.out]
              rw [← e8.out]
              rw [← e7.out]
              rw [← e6.out]
              rw [← e5.out]
              rw [← e4.out]
              rw [← e3.out]
              rw [← e2.out]
              rw [← e1.out]
              unfold enc emany
              rw [hsl, hkl, Nat.mod_eq_of_lt hnS, Nat.mod_eq_of_lt hnK, List.take_of_length_le (by omega), List.take_of_length_le (by omega)]
              simp only [List.map_cons, List.map_nil, List.flatten_cons, List.flatten_nil, List.append_nil, List.append_assoc, List.nil_append, le1_mod]
            rw [hfin] at hr
            obtain ⟨v, hW, _, hc⟩ := hr
            go_wp2
            go_end0
            exact ⟨rfl, v, hW, hc⟩
      · obtain ⟨wu, hwu, hku⟩ := hu true hb
        have hku0 := hku.blk (g := gu) List.mem_cons_self
        rw [hb] at hju
        clear hr ha hu
        have hwu2 : wr.alloc (.cells #[.int .i64 1] 3) = wu := hwu
        have HWU := Lib.hid hwu2
        have HGU := Lib.hid hgu
        have hju2 := hju
        clear hwu hju hwu2 hgu
        go_wp2_with fail
        rw [HWU.out, HGU.out]
        clear hju2
        have q9 := texts_step [(go, 8), (go, 9)] [o.join.text, o.join.name] 2 hku.drew (by simp) rfl rfl (by omega) (fun j hj hj' => match j, hj with | 0, _ => ⟨_, _, (List.mem_cons_of_mem _ List.mem_cons_self), rfl⟩ | 1, _ => ⟨_, _, (List.mem_cons_of_mem _ List.mem_cons_self), rfl⟩) (by simpa using ⟨ho.jtext, ho.jname⟩) (by omega)
        go_region_with (go_at_call 67; refine q9.mono ?_; rintro e w9 ⟨rfl, h9⟩)
        obtain ⟨l9, e9, b9⟩ := name_len l8 _ 131200 (Nat.le_trans (texts_len [o.join.text, o.join.name]) (by simp))
        rw [e9.out] at h9
        clear q9 hku
        have q10 := numbers_step [(go, 10), (gu, 0)] [o.join.expires, (b01 o.join.used)] 2 h9 (by simp) rfl rfl (by omega) (fun j hj hj' => match j, hj with | 0, _ => ⟨_, _, (List.mem_cons_of_mem _ List.mem_cons_self), rfl⟩ | 1, _ => ⟨_, _, List.mem_cons_self, rfl⟩) (by omega)
        go_wp2_with fail
        refine q10.mono ?_
        rintro e w10 ⟨rfl, h10⟩
        obtain ⟨l10, e10, b10⟩ := name_len l9 _ 16 (Nat.le_trans (nums_len [o.join.expires, (b01 o.join.used)]) (by simp))
        rw [e10.out] at h10
        clear q10 h9
        have k0 : w10.cell? ⟨gu, 0, none⟩ = some (.int .i64 1) := by
          have := (h10.blk (g := gu) List.mem_cons_self).cell 0
          rw [hb] at this
          exact this
        have k1 : w10.cell? ⟨go, 11, none⟩ = some (.bool true) := by
          have := (h10.blk (g := go) (List.mem_cons_of_mem _ List.mem_cons_self)).cell 11
          rw [show (opCells o (.slice As j cc) (.slice Ak nk ck))[11]? = some (.bool o.join.used) from rfl, hb] at this
          exact this
        have k2 : w10.frozen? ⟨go, 11, none⟩ = false := (h10.blk (g := go) (List.mem_cons_of_mem _ List.mem_cons_self)).froz 11
        obtain ⟨vc, hvc⟩ := h10.cd
        have k3 : w10.cell? ⟨gc, 2, none⟩ = some (.bool false) := hvc.cell 2
        have k4 : w10.frozen? ⟨gc, 2, none⟩ = false := hvc.froz 2
        obtain ⟨w11, hw11⟩ : ∃ w11, ((w10.setCell ⟨go, 11, none⟩ (.bool true)).setCell ⟨gc, 2, none⟩ (.bool false)) = w11 := ⟨_, rfl⟩
        have h11 : WSt gc [gc, go] [(go, opCells o (.slice As j cc) (.slice Ak nk ck), T)] w w11 l10 := by
          rw [← hw11]
          refine WSt.short ?_ (by simp)
          have hst := (h10.less (K' := [(go, opCells o (.slice As j cc) (.slice Ak nk ck), T)]) (by simp)).store (.inl (by simp)) 11 (.bool true) (by simp)
          rw [set_same (show (opCells o (.slice As j cc) (.slice Ak nk ck))[11]? = some (.bool true) by rw [← hb]; rfl)] at hst
          exact hst
        clear h10 hvc hku0
        go_wp2_with fail
        clear hw11 k0 k1 k2 k3 k4
        have q12 := texts_step [(go, 12), (go, 13)] [o.node.name, o.node.key] 2 h11.drew (by simp) rfl rfl (by omega) (fun j hj hj' => match j, hj with | 0, _ => ⟨_, _, List.mem_cons_self, rfl⟩ | 1, _ => ⟨_, _, List.mem_cons_self, rfl⟩) (by simpa using ⟨ho.nname, ho.nkey⟩) (by omega)
        go_region_with (go_at_call 67; refine q12.mono ?_; rintro e w12 ⟨rfl, h12⟩)
        obtain ⟨l12, e12, b12⟩ := name_len l10 _ 131200 (Nat.le_trans (texts_len [o.node.name, o.node.key]) (by simp))
        rw [e12.out] at h12
        clear q12 h11
        have q13 := numbers_step [(go, 14), (go, 15)] [o.node.expires, o.node.seq] 2 h12.drew (by simp) rfl rfl (by omega) (fun j hj hj' => match j, hj with | 0, _ => ⟨_, _, List.mem_cons_self, rfl⟩ | 1, _ => ⟨_, _, List.mem_cons_self, rfl⟩) (by omega)
        go_wp2_with fail
        go_region_with (go_at_call 66; refine q13.mono ?_; rintro e w13 ⟨rfl, h13⟩)
        obtain ⟨l13, e13, b13⟩ := name_len l12 _ 16 (Nat.le_trans (nums_len [o.node.expires, o.node.seq]) (by simp))
        rw [e13.out] at h13
        clear q13 h12
        have q14 := texts_step [(go, 16), (go, 17), (go, 18)] [o.node.doc, o.key.kid, o.key.seed] 3 h13.drew (by simp) rfl rfl (by omega) (fun j hj hj' => match j, hj with | 0, _ => ⟨_, _, List.mem_cons_self, rfl⟩ | 1, _ => ⟨_, _, List.mem_cons_self, rfl⟩ | 2, _ => ⟨_, _, List.mem_cons_self, rfl⟩) (by simpa using ⟨ho.ndoc, ho.kkid, ho.kseed⟩) (by omega)
        go_wp2_with fail
        go_region_with (go_at_call 67; refine q14.mono ?_; rintro e w14 ⟨rfl, h14⟩)
        obtain ⟨l14, e14, b14⟩ := name_len l13 _ 196800 (Nat.le_trans (texts_len [o.node.doc, o.key.kid, o.key.seed]) (by simp))
        rw [e14.out] at h14
        clear q14 h13
        have q15 := numbers_step [(go, 19), (go, 20)] [o.key.state, o.key.since] 2 h14.drew (by simp) rfl rfl (by omega) (fun j hj hj' => match j, hj with | 0, _ => ⟨_, _, List.mem_cons_self, rfl⟩ | 1, _ => ⟨_, _, List.mem_cons_self, rfl⟩) (by omega)
        go_wp2_with fail
        go_region_with (go_at_call 66; refine q15.mono ?_; rintro e w15 ⟨rfl, h15⟩)
        obtain ⟨l15, e15, b15⟩ := name_len l14 _ 16 (Nat.le_trans (nums_len [o.key.state, o.key.since]) (by simp))
        rw [e15.out] at h15
        clear q15 h14
        have q16 := texts_step [(go, 21)] [o.bundle.domain] 1 h15 (by simp) rfl rfl (by omega) (fun j hj hj' => match j, hj with | 0, _ => ⟨_, _, List.mem_cons_self, rfl⟩) (by simpa using ho.bdom) (by omega)
        go_wp2_with fail
        refine q16.mono ?_
        rintro e w16 ⟨rfl, h16⟩
        obtain ⟨l16, e16, b16⟩ := name_len l15 _ 65600 (Nat.le_trans (texts_len [o.bundle.domain]) (by simp))
        rw [e16.out] at h16
        clear q16 h15
        have q17 := numbers_step [(go, 22)] [o.bundle.number] 1 h16 (by simp) rfl rfl (by omega) (fun j hj hj' => match j, hj with | 0, _ => ⟨_, _, List.mem_cons_self, rfl⟩) (by omega)
        go_wp2_with fail
        refine q17.mono ?_
        rintro e w17 ⟨rfl, h17⟩
        obtain ⟨l17, e17, b17⟩ := name_len l16 _ 8 (Nat.le_trans (nums_len [o.bundle.number]) (by simp))
        rw [e17.out] at h17
        clear q17 h16
        have d18 : w17.cell? ⟨go, 23, none⟩ = some (.slice Ak nk ck) := (h17.blk (g := go) List.mem_cons_self).cell 23
        have q18 := many_step go 23 nk (F := 70) h17 (by simp) List.mem_cons_self (fun a b c d => manyKw_any go 23 Ak nk ck a b rfl hnK hcK c d (by omega)) (by simp)
        go_wp2_with fail
        refine q18.mono ?_
        rintro e w18 ⟨rfl, h18⟩
        obtain ⟨l18, e18, b18⟩ := name_len l17 (le 1 (nk : Int)) 8 (by rw [le_length]; omega)
        rw [e18.out] at h18
        clear q18 d18 h17
        have d18 : w18.cell? ⟨go, 23, none⟩ = some (.slice Ak nk ck) := (h18.blk (g := go) List.mem_cons_self).cell 23
        go_wp2
        go_loopw [6, 192] (fun _ i wr => ∃ m : Nat, m ≤ nk ∧ i = .int .i64 m ∧ WSt gc [gc, go] [(go, opCells o (.slice As j cc) (.slice Ak nk ck), T)] w wr (l18 ++ ((o.bundle.keys.take m).map ekey).flatten)) (fun _ i _ => nk - (intOf i).toNat)
        case atStart => exact ⟨0, by omega, rfl, by simpa using h18⟩
        case round =>
          obtain ⟨m, hm, rfl, hr⟩ := hrel
          have dr : wr.cell? ⟨go, 23, none⟩ = some (.slice Ak nk ck) := (hr.blk (g := go) List.mem_cons_self).cell 23
          by_cases hlt : m < nk
          · have hjs : m < o.bundle.keys.length := by omega
            obtain ⟨b, off, rfl, hbB, hcell⟩ := Vs.lit hk (by rw [jv_length]; omega)
            have hce := hcell (m * 2) (tx o.bundle.keys[m].kid) (jv_at0 hjs)
            have hcx := hcell (m * 2 + 1) (tx o.bundle.keys[m].x) (jv_at1 hjs)
            have hfl := flat_key o.bundle.keys m
            have hkk := ho.bkey _ (List.getElem_mem hjs)
            have q := texts_old b (off + m * 2) o.bundle.keys[m].kid o.bundle.keys[m].x hr.drew (by simp) hce hcx (by simp; omega) hkk.1 hkk.2 (by rw [List.length_append]; omega)
            have htk : l18 ++ ((o.bundle.keys.take (m + 1)).map ekey).flatten = (l18 ++ ((o.bundle.keys.take m).map ekey).flatten) ++ (etext o.bundle.keys[m].kid ++ etext o.bundle.keys[m].x) := by
              rw [← List.take_append_getElem hjs, List.map_append, List.flatten_append, List.append_assoc]
              simp only [List.map_cons, List.map_nil, List.flatten_cons, List.flatten_nil, List.append_nil]
              rfl
            rw [← htk] at q
            clear htk hfl hce hcx hcell hr hkk
            go_wp2_with fail
            go_region_with (go_at_call 67; refine q.mono ?_; rintro e w2 ⟨rfl, hr2⟩)
            all_goals
              go_wp2
              go_roundw
              case rel => exact ⟨m + 1, by omega, by go_num, hr2⟩
              case measure => simp [intOf]; omega
          · obtain rfl : m = nk := by omega
            rw [List.take_of_length_le (by omega)] at hr
            have hfin : l18 ++ (o.bundle.keys.map ekey).flatten = enc o := by
              rw [← e18.out]
              rw [← e17.out]
              rw [← e16.out]
              rw [← e15.out]
              rw [← e14.out]
              rw [← e13.out]
              rw [← e12.out]
              rw [← e10.out]
              rw [← e9.out]
              rw [← e8.out]
              rw [← e7.out]
              rw [← e6.out]
              rw [← e5.out]
              rw [← e4.out]
              rw [← e3.out]
              rw [← e2.out]
              rw [← e1.out]
              unfold enc emany
              rw [hsl, hkl, Nat.mod_eq_of_lt hnS, Nat.mod_eq_of_lt hnK, List.take_of_length_le (by omega), List.take_of_length_le (by omega)]
              simp only [List.map_cons, List.map_nil, List.flatten_cons, List.flatten_nil, List.append_nil, List.append_assoc, List.nil_append, le1_mod]
            rw [hfin] at hr
            obtain ⟨v, hW, _, hc⟩ := hr
            go_wp2
            go_end0
            exact ⟨rfl, v, hW, hc⟩
end Go.Proofs.YtmbpnkacggngkaaGreatDoor
