/- TEXTS: the reference's functions, told by records. -/
import Derived.Test.YtgaplcgenlphdaaWalPutW
namespace Go.Proofs.Ytgaplcgenlphdaa
open Go.RowKit Mem

theorem infoT : (Try.prog.info? 9).map (fun i => (i.zero, i.size, i.bytes)) = some (some (.string ⟨#[]⟩), 1, 16) := by kernel_rfl
/-- Records as texts, as they lie in memory. -/
def tv (L : List (List UInt8)) : List Value := L.map fun l => .string (str l)
theorem tv_length (L : List (List UInt8)) : (tv L).length = L.length := by simp [tv]
theorem tv_append (a b : List (List UInt8)) : tv (a ++ b) = tv a ++ tv b := by simp [tv]
theorem tv_at {L : List (List UInt8)} {k : Nat} {u : Value} (h : (tv L)[k]? = some u) (hk : k < L.length) : u = .string (str L[k]) := by
  simp only [tv, List.getElem?_map, List.getElem?_eq_getElem hk, Option.map_some, Option.some.injEq] at h
  exact h.symm
/-- The []string at A of n elements reads as L. -/
def Ts (w : World) (A : Option Addr) (n : Nat) (L : List (List UInt8)) : Prop := Vs w w.heap.size 1 A n (tv L)
theorem Ts.len {w : World} {A : Option Addr} {n : Nat} {L : List (List UInt8)} (h : Ts w A n L) : L.length = n := by have := Vs.len h; rw [tv_length] at this; omega
theorem Ts.of_own {w : World} {base c n : Nat} {A : Option Addr} {L : List (List UInt8)} {e : TypeId} (h : w.ownsRow base e 1 (.slice A n c) n (tv L)) : Ts w A n L := Vs.of_own h
theorem Ts.lit {w : World} {A : Option Addr} {n : Nat} {L : List (List UInt8)} (h : Ts w A n L) {i : Nat} (hi : i < L.length) : ∃ blk off, A = some ⟨blk, off, none⟩ ∧ w.cell? ⟨blk, off + i, none⟩ = some (.string (str L[i])) := by
  have hlen := h.len
  obtain ⟨ad, u, rfl, hb, hu, hc⟩ := Vs.at_ h (k := i) (by omega)
  have hu' := tv_at hu hi
  subst hu'
  have hsp : ad.spot = none := by
    obtain ⟨ad0, u0, e0, _, _, c0⟩ := Vs.at_ h (k := 0) (by omega)
    injection e0 with e0
    subst e0
    have := World.cell?_spot c0
    simpa [Addr.add] using this
  obtain ⟨blk, off, sp⟩ := ad
  simp only at hsp
  subst hsp
  refine ⟨blk, off, rfl, ?_⟩
  rw [← hc]
  congr 1
  unfold Addr.add
  split <;> simp_all
theorem RsX.lit {w : World} {S : List Nat} {A : Option Addr} {n : Nat} {L : List (List UInt8)} (h : RsX w S A n L) {i : Nat} (hi : i < L.length) : ∃ blk off A' n' c', A = some ⟨blk, off, none⟩ ∧ blk < w.heap.size ∧ blk ∉ S ∧ w.cell? ⟨blk, off + i, none⟩ = some (.slice A' n' c') ∧ n' ≤ c' ∧ c' ≤ 9223372036854775807 ∧ Bs w w.heap.size A' n' L[i] ∧ ∀ a', A' = some a' → 0 < n' → a'.block ∉ S := by
  obtain ⟨ad, A', n', c', rfl, b1, b2, b3, r⟩ := h.rd i hi
  have hsp : ad.spot = none := by
    obtain ⟨ad0, _, _, _, e0, _, _, c0, _⟩ := h.rd 0 (by omega)
    injection e0 with e0
    subst e0
    have := World.cell?_spot c0
    simpa [Addr.add] using this
  obtain ⟨blk, off, sp⟩ := ad
  simp only at hsp
  subst hsp
  refine ⟨blk, off, A', n', c', rfl, b1, b2, ?_, r⟩
  rw [← b3]
  congr 1
  unfold Addr.add
  split <;> simp_all

theorem rsize_any (n : Nat) (w : World) (hn : n ≤ 1000000) : Calls Try.prog 35 #[.int .i64 (n : Int)] w fun e w' => e = .returned (.int .i64 (Wal.size n : Nat)) ∧ w = w' := by
  have hs : ∃ z, Wal.size n = z ∧ n + 6 ≤ z * 128 ∧ z * 128 < n + 134 := ⟨_, rfl, Wal.size_bound n⟩
  obtain ⟨z, hz, z1, z2⟩ := hs
  rw [hz]
  go_enter Try.func35, Try.ntmps35
  go_wp2
  go_loopw [3] (fun v wr => ∃ k : Nat, k ≤ z ∧ v = .int .i64 k ∧ w = wr) (fun v _ => z - (intOf v).toNat)
  case atStart => exact ⟨0, by omega, rfl, by simp⟩
  case round =>
    obtain ⟨k, hk, rfl, rfl⟩ := hrel
    by_cases hlt : k < z
    · go_wp2
      go_roundw
      case rel => exact ⟨k + 1, by omega, by go_num, trivial⟩
      case measure => simp [intOf]; omega
    · obtain rfl : k = z := by omega
      go_wp2
      go_ret
      exact ⟨rfl, rfl⟩

set_option maxHeartbeats 2000000 in
theorem rsizes_any (A : Option Addr) (n c : Nat) (L : Wal.Secs) (w : World) (h : Ts w A n L) (hn : n ≤ 1000) (hl : ∀ r ∈ L, r.length ≤ 100000) :
    Calls Try.prog 20 #[.slice A n c] w fun e w' => e = .returned (.int .i64 (Wal.sizes L : Nat)) ∧ w = w' := by
  have hlen := h.len
  have hbd : ∀ k, k ≤ n → Wal.sizes (L.take k) ≤ k * 783 := by
    intro k
    induction k with
    | zero => intro _; simp [Wal.sizes]
    | succ k ih =>
      intro hk
      rw [sizes_take L k (by omega)]
      have h1 := ih (by omega)
      have h2 := hl _ (List.getElem_mem (show k < L.length by omega))
      have h3 := Wal.size_bound L[k].length
      omega
  have HBD := Lib.hid hbd
  clear hbd
  go_enter Try.func20, Try.ntmps20
  go_wp2
  go_loopw [3, 4] (fun v i wr => ∃ k s : Nat, k ≤ n ∧ i = .int .i64 k ∧ v = .int .i64 s ∧ s ≤ 1000000 ∧ Hid (s = Wal.sizes (L.take k)) ∧ w = wr) (fun _ i _ => n - (intOf i).toNat)
  case atStart => exact ⟨0, 0, by omega, rfl, rfl, by omega, Lib.hid rfl, rfl⟩
  case round =>
    obtain ⟨k, s, hk, rfl, rfl, hs, HS, rfl⟩ := hrel
    by_cases hlt : k < n
    · have hkL : k < L.length := by omega
      obtain ⟨blk, off, rfl, hcell⟩ := h.lit hkL
      have hr := hl _ (List.getElem_mem hkL)
      have hsz := str_size L[k]
      have hst := sizes_take L k hkL
      have hb1 := HBD.out (k + 1) (by omega)
      have hz := fun W => rsize_any L[k].length W (by omega)
      generalize L[k] = r at *
      generalize str r = sr at *
      obtain ⟨z, hzz⟩ : ∃ z, Wal.size r.length = z := ⟨_, rfl⟩
      rw [hzz] at hst hz
      have HS2 := Lib.hid (show s + z = Wal.sizes (L.take (k + 1)) by rw [hst, HS.out])
      have hs2 : s + z ≤ 1000000 := by have := HS2.out; omega
      clear hst hb1 hzz
      go_wp2_with fail
      refine (hz _).mono ?_
      rintro e w3 ⟨rfl, rfl⟩
      go_wp2
      go_roundw
      case rel => exact ⟨k + 1, s + z, by omega, by go_num, by go_num, hs2, HS2, trivial⟩
      case measure => simp [intOf]; omega
    · obtain rfl : k = n := by omega
      have hend : s = Wal.sizes L := by rw [HS.out, List.take_of_length_le (by omega)]
      have HE := Lib.hid hend
      clear hend HS
      go_wp2
      go_ret
      exact ⟨by rw [HE.out]; rfl, rfl⟩
set_option maxHeartbeats 2000000 in
theorem same_any (A : Option Addr) (n c : Nat) (L : Wal.Secs) (A' : Option Addr) (n' c' : Nat) (M : Wal.Secs) (w : World) (h : Ts w A n L) (h' : Ts w A' n' M) (hn : n ≤ 1000) (hn' : n' ≤ 1000) :
    Calls Try.prog 15 #[.slice A n c, .slice A' n' c'] w fun e w' => e = .returned (.bool (decide (L = M))) ∧ Below w.heap.size w w' := by
  have hlen := h.len
  have hlen' := h'.len
  by_cases hnn : n = n'
  · subst hnn
    go_enter Try.func15, Try.ntmps15
    go_wp2
    go_loopw [5] (fun i wr => ∃ k : Nat, k ≤ n ∧ i = .int .i64 k ∧ Hid (L.take k = M.take k) ∧ Below w.heap.size w wr ∧ Ts wr A n L ∧ Ts wr A' n M) (fun i _ => n - (intOf i).toNat)
    case atStart => exact ⟨0, by omega, rfl, Lib.hid rfl, Below.refl _ _, h, h'⟩
    case round =>
      obtain ⟨k, hk, rfl, HT, hb, t1, t2⟩ := hrel
      by_cases hlt : k < n
      · have hkL : k < L.length := by omega
        have hkM : k < M.length := by omega
        obtain ⟨blk, off, rfl, hcell⟩ := t1.lit hkL
        obtain ⟨blk', off', rfl, hcell'⟩ := t2.lit hkM
        have e1 : L.take (k + 1) = L.take k ++ [L[k]] := List.take_succ_eq_append_getElem hkL
        have e2 : M.take (k + 1) = M.take k ++ [M[k]] := List.take_succ_eq_append_getElem hkM
        by_cases hab : L[k] = M[k]
        · have HT2 := Lib.hid (show L.take (k + 1) = M.take (k + 1) by rw [e1, e2, HT.out, hab])
          rw [← hab] at hcell'
          generalize L[k] = s at *
          have hss : (s == s) = true := by rw [beq_iff_eq]
          have hi : (k : Int) < (n : Int) := by omega
          clear e1 e2 hab
          go_wp2_with fail
          go_quiet (fail)
          go_wp2
          go_roundw
          case rel => exact ⟨k + 1, by omega, by go_num, HT2, hb.trans (below_drewNs _ _ _), t1.drewN nq, t2.drewN nq⟩
          case measure => simp [intOf]; omega
        · have hne : ¬ L = M := fun e => hab (by subst e; rfl)
          have hd : decide (L = M) = false := decide_eq_false hne
          have hss : (L[k] == M[k]) = false := by rw [beq_eq_false_iff_ne]; exact hab
          generalize L[k] = s at *
          generalize M[k] = s' at *
          have hi : (k : Int) < (n : Int) := by omega
          clear e1 e2 hab hne
          go_wp2_with fail
          go_quiet (fail)
          go_wp2
          go_ret
          exact ⟨by rw [hd]; rfl, hb.trans (below_drewNs _ _ _)⟩
      · obtain rfl : k = n := by omega
        have hd : decide (L = M) = true := decide_eq_true (by
          have := HT.out
          rw [List.take_of_length_le (by omega), List.take_of_length_le (by omega)] at this
          exact this)
        go_wp2
        go_ret
        exact ⟨by rw [hd]; rfl, hb⟩
  · have hd : decide (L = M) = false := decide_eq_false (fun e => hnn (by subst e; omega))
    go_enter Try.func15, Try.ntmps15
    go_wp2
    go_ret
    exact ⟨by rw [hd]; rfl, Below.refl _ _⟩

set_option maxHeartbeats 2000000 in
theorem texts_any {S : List Nat} (A : Option Addr) (n c : Nat) (L : Wal.Secs) (w : World) (h : RsX w S A n L) (hn : n ≤ 100000) :
    Calls Try.prog 16 #[.slice A n c] w fun e w' => ∃ A' c', e = .returned (.slice A' n c') ∧ n ≤ c' ∧ w'.ownsRow w.heap.size 9 1 (.slice A' n c') n (tv L) ∧ Below w.heap.size w w' := by
  obtain ⟨iT, hiT, hzT, hsT, hbT⟩ := info_parts infoT
  have hlen := h.len
  go_enter Try.func16, Try.ntmps16
  go_wp2
  go_loopw [3, 4] (fun v i wr => ∃ (k : Nat) (A4 : Option Addr) (c4 : Nat), k ≤ n ∧ i = .int .i64 k ∧ v = .slice A4 k c4 ∧ k ≤ c4 ∧ wr.ownsRow w.heap.size 9 1 (.slice A4 k c4) k (tv (L.take k)) ∧ Below w.heap.size w wr) (fun _ i _ => n - (intOf i).toNat)
  case atStart => exact ⟨0, none, 0, by omega, rfl, rfl, by omega, World.ownsRow_nil _ _ _ _, Below.refl _ _⟩
  case round =>
    obtain ⟨k, A4, c4, hk, rfl, rfl, hc4, hown, hb⟩ := hrel
    by_cases hlt : k < n
    · have hkL : k < L.length := by omega
      have hx := h.below hb
      obtain ⟨blk, off, A', n', c', rfl, b1, b2, b3, b4, b5, b6, b7⟩ := hx.lit hkL
      have hB : w.heap.size ≤ wr.heap.size := hb.size
      have hcv := conv b6 c'
      have e1 : tv (L.take (k + 1)) = tv (L.take k) ++ [.string (str L[k])] := by
        rw [List.take_succ_eq_append_getElem hkL, tv_append]
        rfl
      generalize str L[k] = s at *
      have HE := Lib.hid e1
      have h63 : k + 1 ≤ maxLen := by unfold maxLen; omega
      have hk16 : (k + 1) * 16 ≤ 140737488355328 := by omega
      clear e1 b6 hx
      go_wp2_with (at_builtin; go_must (refine wpList_push rfl (.tmp 11) (.tmp 17) 32 rfl w.heap.size iT (.string ⟨#[]⟩) 16 Try.underlying32 hiT hzT hsT hbT rfl _ _ _ rfl hown rfl rfl h63 hk16 hB ?_))
      intro A5 c5 w4 hown4 g7 g8 hgr
      have hb4 : Below w.heap.size w w4 := below_push hb hgr hB hown (Nat.le_refl _)
      rw [← HE.out] at hown4
      clear hgr hown
      go_wp2
      go_roundw
      case rel => exact ⟨k + 1, A5, c5, by omega, by go_num, rfl, g7, hown4, hb4⟩
      case measure => simp [intOf]; omega
    · obtain rfl : k = n := by omega
      have e1 : L.take k = L := List.take_of_length_le (by omega)
      rw [e1] at hown
      clear e1
      go_wp2
      go_ret
      exact ⟨A4, c4, rfl, hc4, hown, hb⟩

set_option maxHeartbeats 2000000 in
theorem long_any {S : List Nat} (A : Option Addr) (n c : Nat) (L : Wal.Secs) (w : World) (h : RsX w S A n L) (hn : n ≤ 100000) :
    Calls Try.prog 36 #[.slice A n c] w fun e w' => e = .returned (.bool (Wal.tooLong L)) ∧ w = w' := by
  have hlen := h.len
  go_enter Try.func36, Try.ntmps36
  go_wp2
  go_loopw [3] (fun i wr => ∃ k : Nat, k ≤ n ∧ i = .int .i64 k ∧ Hid (∀ r ∈ L.take k, r.length ≤ 1000) ∧ w = wr) (fun i _ => n - (intOf i).toNat)
  case atStart => exact ⟨0, by omega, rfl, Lib.hid (by simp), by simp⟩
  case round =>
    obtain ⟨k, hk, rfl, HA, rfl⟩ := hrel
    by_cases hlt : k < n
    · have hkL : k < L.length := by omega
      obtain ⟨blk, off, A', n', c', rfl, b1, b2, b3, b4, b5, b6, b7⟩ := h.lit hkL
      have hl6 := b6.len
      by_cases hlong : 1000 < n'
      · have htl : Wal.tooLong L = true := by
          unfold Wal.tooLong
          rw [List.any_eq_true]
          exact ⟨_, List.getElem_mem hkL, decide_eq_true (by omega)⟩
        clear b6 hl6
        go_wp2
        go_ret
        exact ⟨by rw [htl]; rfl, rfl⟩
      · have HA2 := Lib.hid (show ∀ r ∈ L.take (k + 1), r.length ≤ 1000 by
          rw [List.take_succ_eq_append_getElem hkL]
          intro r hr
          rcases List.mem_append.1 hr with hr | hr
          · exact HA.out r hr
          · simp at hr
            subst hr
            omega)
        clear b6 hl6
        go_wp2
        go_roundw
        case rel => exact ⟨k + 1, by omega, by go_num, HA2, trivial⟩
        case measure => simp [intOf]; omega
    · obtain rfl : k = n := by omega
      have htl : Wal.tooLong L = false := by
        have := HA.out
        rw [List.take_of_length_le (by omega)] at this
        unfold Wal.tooLong
        rw [List.any_eq_false]
        intro r hr
        have := this r hr
        simp
        omega
      go_wp2
      go_ret
      exact ⟨by rw [htl]; rfl, rfl⟩

def fewOf (L : Wal.Secs) : Wal.Secs := (L.take 4).map (·.take 1010)
theorem fewOf_len (L : Wal.Secs) : (fewOf L).length = min 4 L.length := by simp [fewOf]
theorem fewOf_short (L : Wal.Secs) : ∀ r ∈ fewOf L, r.length ≤ 1010 := by
  intro r hr
  unfold fewOf at hr
  simp only [List.mem_map] at hr
  obtain ⟨x, _, rfl⟩ := hr
  rw [List.length_take]
  omega
set_option maxHeartbeats 4000000 in
theorem few_any {S : List Nat} (A : Option Addr) (n c : Nat) (L : Wal.Secs) (w : World) (h : RsX w S A n L) (hc : n ≤ c) :
    Calls Try.prog 19 #[.slice A n c] w fun e w' => ∃ A' m c' xs, e = .returned (.slice A' m c') ∧ m ≤ 4 ∧ m ≤ c' ∧ c' ≤ 9223372036854775807 ∧ Row w' w.heap.size S (.slice A' m c') m xs (fewOf L) ∧ Below w.heap.size w w' := by
  obtain ⟨iB, hiB, hzB, hsB, hbB⟩ := info_parts infoBs
  have hlen := h.len
  go_enter Try.func19, Try.ntmps19
  go_wp2
  go_loopw [3, 4, 5] (fun v i _ wr => ∃ (k : Nat) (A4 : Option Addr) (c4 : Nat) (xs : List Value), k ≤ n ∧ k ≤ 4 ∧ i = .int .i64 k ∧ v = .slice A4 k c4 ∧ k ≤ c4 ∧ c4 ≤ 9223372036854775807 ∧ Row wr w.heap.size S (.slice A4 k c4) k xs ((L.take k).map (·.take 1010)) ∧ Below w.heap.size w wr) (fun _ i _ _ => n - (intOf i).toNat)
  case atStart => exact ⟨0, none, 0, [], by omega, by omega, rfl, rfl, by omega, by omega, Row.nil _ _ _, Below.refl _ _⟩
  case round =>
    obtain ⟨k, A4, c4, xs, hk, hk4, rfl, rfl, hc4, hc42, hrow, hb⟩ := hrel
    have hB : w.heap.size ≤ wr.heap.size := hb.size
    by_cases hlt : k < n
    · by_cases h4 : k < 4
      · have hkL : k < L.length := by omega
        have hx := h.below hb
        obtain ⟨blk, off, A', n', c', rfl, b1, b2, b3, b4, b5, b6, b7⟩ := hx.lit hkL
        have b8 : ∀ a', A' = some a' → 0 < n' → a'.block < w.heap.size := by
          obtain ⟨blk0, off0, A0, n0, c0, e0, _, _, f3, _, _, f6, _⟩ := h.lit hkL
          injection e0 with e0
          injection e0 with e1 e2
          subst e1 e2
          have f4 := (hb.cell (p := ⟨blk, off + k, none⟩) (by have := World.block_lt_of_cell? w _ f3; exact this)).trans f3
          rw [b3] at f4
          injection f4 with f4
          injection f4 with g1 g2 g3
          subst g1 g2 g3
          intro a' ha hn'
          subst ha
          obtain ⟨ad, _, e, hlt', _⟩ := f6.at_ (k := 0) hn'
          injection e with e
          subst e
          exact hlt'
        have e1 : (L.take (k + 1)).map (·.take 1010) = (L.take k).map (·.take 1010) ++ [L[k].take 1010] := by
          rw [List.take_succ_eq_append_getElem hkL, List.map_append]
          rfl
        have HE := Lib.hid e1
        have h63 : k + 1 ≤ maxLen := by unfold maxLen; omega
        have hk24 : (k + 1) * 24 ≤ 140737488355328 := by omega
        have hi1 : (k : Int) < (n : Int) := by omega
        have hi2 : (k : Int) < 4 := by omega
        have hlk := b6.len
        have hne : ∀ a', A' = some a' → 0 < n' → a'.block ∉ S ∧ (Value.slice A4 k c4).ownBlock ≠ some a'.block := fun a' ha hn' => ⟨b7 a' ha hn', fun e => by
          have := (hrow.own.lt _ e).1
          have := b8 a' ha hn'
          omega⟩
        by_cases hbig : 1010 < n'
        · have hbt := b6.take (k := 1010) (by omega)
          have hi3 : (1010 : Int) < (n' : Int) := by omega
          have hne2 : ∀ a', A' = some a' → 0 < 1010 → a'.block ∉ S ∧ (Value.slice A4 k c4).ownBlock ≠ some a'.block := fun a' ha _ => hne a' ha (by omega)
          clear e1 b6 hx hlk
          go_wp2_with (at_builtin; go_must (refine wpList_pushAt rfl (.tmp 25) (.tmp 27) 23 rfl w.heap.size iB (.slice none 0 0) 24 Try.underlying23 hiB hzB hsB hbB rfl _ _ _ rfl hrow.own rfl rfl h63 hk24 hB ?_))
          intro A5 c5 w4 hown4 g7 g8 hgr hwhere
          have hrow4 := hrow.push hbt (by omega) b5 hne2 hown4 hgr hwhere
          have hb4 : Below w.heap.size w w4 := below_push hb hgr hB hrow.own (Nat.le_refl _)
          rw [← HE.out] at hrow4
          clear hown4 hgr hwhere hrow hbt
          go_wp2
          go_roundw
          case rel => exact ⟨k + 1, A5, c5, _, by omega, by omega, by go_num, rfl, g7, g8, hrow4, hb4⟩
          case measure => simp [intOf]; omega
        · have e2 : L[k].take 1010 = L[k] := List.take_of_length_le (by omega)
          rw [e2] at HE
          clear e1 e2 hx hlk
          go_wp2_with (at_builtin; go_must (refine wpList_pushAt rfl (.tmp 25) (.tmp 27) 23 rfl w.heap.size iB (.slice none 0 0) 24 Try.underlying23 hiB hzB hsB hbB rfl _ _ _ rfl hrow.own rfl rfl h63 hk24 hB ?_))
          intro A5 c5 w4 hown4 g7 g8 hgr hwhere
          have hrow4 := hrow.push b6 b4 b5 hne hown4 hgr hwhere
          have hb4 : Below w.heap.size w w4 := below_push hb hgr hB hrow.own (Nat.le_refl _)
          rw [← HE.out] at hrow4
          clear hown4 hgr hwhere hrow b6
          go_wp2
          go_roundw
          case rel => exact ⟨k + 1, A5, c5, _, by omega, by omega, by go_num, rfl, g7, g8, hrow4, hb4⟩
          case measure => simp [intOf]; omega
      · obtain rfl : k = 4 := by omega
        have hi1 : (4 : Int) < (n : Int) := by omega
        go_wp2
        go_ret
        exact ⟨A4, 4, c4, xs, rfl, by omega, hc4, hc42, hrow, hb⟩
    · obtain rfl : k = n := by omega
      have e1 : L.take k = L.take 4 := by rw [List.take_of_length_le (by omega), List.take_of_length_le (by omega)]
      rw [e1] at hrow
      clear e1
      go_wp2
      go_ret
      exact ⟨A4, k, c4, xs, rfl, hk4, hc4, hc42, hrow, hb⟩
theorem chg_push {w w1 : World} {base n : Nat} {v X : Value} {e e' : TypeId} {xs : List Value} (hg : (w.alloc (.cells #[X] e)).grownBy w1 v.ownBlock) (hown : w.ownsRow base e' 1 v n xs) : ∃ S : List Nat, (∀ s ∈ S, base ≤ s) ∧ Chg S w w1 := by
  refine ⟨v.ownBlock.toList, fun s hs => ?_, ?_⟩
  · have : v.ownBlock = some s := by simpa using hs
    exact (hown.lt s this).1
  · have h1 : Chg v.ownBlock.toList w (w.alloc (.cells #[X] e)) := (Chg.refl _ _).alloc _
    refine h1.and ⟨hg.os, hg.tape, hg.output, hg.size, fun k hk hn => hg.block k hk fun e => hn (by rw [← e]; simp)⟩

/-- The caller's [][]byte: all below block B. -/
structure RsB (w : World) (B : Nat) (A : Option Addr) (n : Nat) (L : List (List UInt8)) : Prop where
  len : L.length = n
  rd : ∀ i, (h : i < L.length) → ∃ ad A' n' c', A = some ad ∧ ad.block < B ∧ w.cell? (ad.add i) = some (.slice A' n' c') ∧ n' ≤ c' ∧ c' ≤ 9223372036854775807 ∧ Bs w B A' n' L[i]
theorem RsB.keep {w w' : World} {B n : Nat} {A : Option Addr} {L : List (List UInt8)} (h : RsB w B A n L) (hk : ∀ p : Addr, p.block < B → w'.cell? p = w.cell? p) : RsB w' B A n L :=
  ⟨h.len, fun i hi => by
    obtain ⟨ad, A', n', c', e, h1, h2, h3, h4, h5⟩ := h.rd i hi
    exact ⟨ad, A', n', c', e, h1, (hk _ (by rw [block_add]; exact h1)).trans h2, h3, h4, h5.keep hk⟩⟩
theorem RsB.x {w : World} {B n : Nat} {A : Option Addr} {L : List (List UInt8)} (h : RsB w B A n L) {S : List Nat} (hB : B ≤ w.heap.size) (hS : ∀ s ∈ S, B ≤ s) : RsX w S A n L :=
  ⟨h.len, fun i hi => by
    obtain ⟨ad, A', n', c', e, h1, h2, h3, h4, h5⟩ := h.rd i hi
    refine ⟨ad, A', n', c', e, by omega, fun hm => by have := hS _ hm; omega, h2, h3, h4, h5.mono hB, fun a' ha hn hm => ?_⟩
    subst ha
    obtain ⟨ad2, _, e2, hlt, _⟩ := h5.at_ (k := 0) hn
    injection e2 with e2
    subst e2
    have := hS _ hm
    omega⟩
end Go.Proofs.Ytgaplcgenlphdaa
