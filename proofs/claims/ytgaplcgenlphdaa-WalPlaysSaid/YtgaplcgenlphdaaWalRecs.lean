/- THE WALK of records: what counts, parsed. -/
import Derived.Test.YtgaplcgenlphdaaWalSettle
import Derived.Test.YtgaplcgenlphdaaRecs
import Derived.IntWalk
namespace Go.Proofs.Ytgaplcgenlphdaa
open Go.RowKit Mem

def RecsAny (w : World) (r : Option (List (List UInt8))) (e : Ending) (w' : World) : Prop :=
  (r = none ∧ e = .returned (.tuple #[.slice none 0 0, .bool false]) ∧ Below w.heap.size w w') ∨
  ∃ L A n c xs, r = some L ∧ e = .returned (.tuple #[.slice A n c, .bool true]) ∧ n ≤ c ∧ Row w' w.heap.size [] (.slice A n c) n xs L ∧ Below w.heap.size w w'

theorem comp_push {α : Type} (L : List α) (x : α) (o : Option (List α)) : Option.map ((fun r => L ++ r) ∘ fun r => x :: r) o = o.map fun r => (L ++ [x]) ++ r := by
  cases o <;> simp
set_option maxRecDepth 100000 in
set_option maxHeartbeats 8000000 in
theorem records_any (A : Option Addr) (n c B m0 : Nat) (l : List UInt8) (w : World) (hd : Bs w B A n l) (hn : n = m0 * 128) (hm0 : m0 ≤ 256) (hc : n ≤ c) (hc2 : c ≤ 9223372036854775807) (hB : B ≤ w.heap.size) :
    Calls Try.prog 30 #[.slice A n c] w (RecsAny w (Wal.parse m0 l)) := by
  obtain ⟨iB, hiB, hzB, hsB, hbB⟩ := info_parts infoBs
  have hdm := hd.mono hB
  obtain ⟨R, hR⟩ : ∃ R, Wal.parse m0 l = R := ⟨_, rfl⟩
  have start : Hid (R = (Wal.parse m0 l).map fun r => [] ++ r) := Lib.hid (by rw [hR]; cases R <;> simp)
  have hnm := Lib.hid hn
  rw [hR]
  have hn2 : n ≤ 32768 := by omega
  clear hd hn hR
  go_enter Try.func30, Try.ntmps30
  go_wp2
  go_loopw [0, 4, 5, 6, 7, 8] (fun v vo _ _ _ _ wr => ∃ (m N c k : Nat) (A : Option Addr) (l : List UInt8) (A4 : Option Addr) (c4 : Nat) (xs : List Value) (L : List (List UInt8)), v = .slice A N c ∧ Hid (N = m * 128) ∧ N ≤ 32768 ∧ N ≤ c ∧ c ≤ 9223372036854775807 ∧ vo = .slice A4 k c4 ∧ k ≤ c4 ∧ k + m ≤ 256 ∧ Bs wr w.heap.size A N l ∧ Row wr w.heap.size [] (.slice A4 k c4) k xs L ∧ Hid (R = (Wal.parse m l).map fun r => L ++ r) ∧ Below w.heap.size w wr) (fun v _ _ _ _ _ _ => match v with | .slice _ m _ => m | _ => 0)
  case atStart => exact ⟨m0, n, c, 0, A, l, none, 0, [], [], rfl, hnm, hn2, hc, hc2, rfl, by omega, by omega, hdm, Row.nil _ _ _, start, Below.refl _ _⟩
  case round =>
    clear hdm start
    obtain ⟨m, N, c, k, A, l, A4, c4, xs, L, rfl, HN, hN2, hNc, hc2, rfl, hk4, hkm, hbs, hrow, HR, hb⟩ := hrel
    have hlen := hbs.len
    have hB1 := hb.size
    by_cases hpos : 0 < N
    · have hN := HN.out
      obtain ⟨m', rfl⟩ : ∃ m', m = m' + 1 := ⟨m - 1, by omega⟩
      have h128 : 128 ≤ N := by omega
      obtain ⟨ad, hl0, rfl, _, q0⟩ := hbs.at_ (k := 0) (by omega)
      obtain ⟨_, hl1, e1, _, q1⟩ := hbs.at_ (k := 1) (by omega)
      injection e1 with e1
      subst e1
      have g0 : l.getD 0 0 = l[0] := by rw [List.getD_eq_getElem?_getD, List.getElem?_eq_getElem hl0]; rfl
      have g1 : l.getD 1 0 = l[1] := by rw [List.getD_eq_getElem?_getD, List.getElem?_eq_getElem hl1]; rfl
      have hx0 := l[0].toNat_lt
      have hx1 := l[1].toNat_lt
      have hle : Wal.le2 l = l[0].toNat + 256 * l[1].toNat := by unfold Wal.le2; rw [g0, g1]
      generalize l[0].toNat = x0 at *
      generalize l[1].toNat = x1 at *
      have hor := or_hi x0 x1 (by omega) (by omega)
      obtain ⟨z, hz⟩ : ∃ z, Wal.le2 l = z := ⟨_, rfl⟩
      rw [← hle, hz] at hor
      have hz65 : z < 65536 := by omega
      have hun : Wal.parse (m' + 1) l = if l.length = 0 then some [] else if 1000 < z ∨ l.length < z + 6 then none else if Crc.opens (l.take (z + 6)) = true then (Wal.parse m' (l.drop (Wal.size z * 128))).map fun r => (l.take (z + 2)).drop 2 :: r else none := by rw [← hz]; rfl
      rw [if_neg (by omega), hlen] at hun
      rw [hun] at HR
      have hrl : A4 = A4 := rfl
      have hsp : ad.spot = none := by have := World.cell?_spot q0; simpa [Addr.add] using this
      obtain ⟨blk, off, sp⟩ := ad
      simp only at hsp
      subst hsp
      have hq0 : wr.cell? ⟨blk, off, none⟩ = some (.int .u8 (x0 : Int)) := by simpa [Addr.add] using q0
      have hq1 : wr.cell? ⟨blk, off + 1, none⟩ = some (.int .u8 (x1 : Int)) := by simpa [Addr.add] using q1
      clear q1 q0 g0 g1 hle hz hun hl0 hl1 hlen HN hrl
      have HN := Lib.hid hN
      clear hN
      by_cases hbig : 1000 < z ∨ N < z + 6
      · have hnone : R = none := by rw [HR.out, if_pos hbig]; rfl
        have HR2 := Lib.hid hnone
        clear hnone HR hrow hbs
        have hcase : 1000 < z ∨ (z ≤ 1000 ∧ N < z + 6) := by omega
        clear hbig
        rcases hcase with h1 | ⟨h1, h2⟩
        all_goals
          have i1 : 1 < N := by omega
          have i2 : (1 : Int) < (N : Int) := by omega
          have y0 : IntKind.i64.wrap (x0 : Int) = (x0 : Int) := IntWalk.i64_in _ (by omega)
          have y1 : IntKind.i64.wrap (x1 : Int) = (x1 : Int) := IntWalk.i64_in _ (by omega)
          go_wp2_with fail
          go_quiet (fail)
          clear y0 y1
          go_wp2_with fail
          go_ret2
          exact .inl ⟨HR2.out, rfl, hb.trans (below_drewNs _ _ _)⟩
      · rw [if_neg hbig] at HR
        have hz2 : z ≤ 1000 := by omega
        have hz3 : z + 6 ≤ N := by omega
        have hsz := Wal.size_bound z
        have hsp := Wal.size_pos z
        have hsm : Wal.size z ≤ m' + 1 := by have := HN.out; omega
        have hopen : Crc.opens (l.take (z + 6)) = (Crc.seal_ ((l.take (z + 6)).take (z + 2)) == l.take (z + 6)) := by
          have e : (l.take (z + 6)).length = z + 6 := by rw [List.length_take, hbs.len]; omega
          unfold Crc.opens
          rw [e, show z + 6 - 4 = z + 2 by omega]
          simp
        have hbt := hbs.take (k := z + 6) (by omega)
        have i1 : 1 < N := by omega
        have i2 : (1 : Int) < (N : Int) := by omega
        have hs8 := Wal.size_le hz2
        clear hbig
        cases ho : Crc.opens (l.take (z + 6)) with
        | false =>
          rw [ho] at HR hopen
          have hnone : R = none := by rw [HR.out]; rfl
          have HR2 := Lib.hid hnone
          have hop := fun W (hW : Below wr.heap.size wr W) => open_no (some ⟨blk, off, none⟩) (z + 2) c _ _ W (hbt.next hB1 hW) (by omega) (by omega) (by have := hW.size; omega) hopen.symm
          clear hnone HR hrow hbs ho hopen hbt hsz hsp hsm
          have y0 : IntKind.i64.wrap (x0 : Int) = (x0 : Int) := IntWalk.i64_in _ (by omega)
          have y1 : IntKind.i64.wrap (x1 : Int) = (x1 : Int) := IntWalk.i64_in _ (by omega)
          go_wp2_with fail
          go_quiet (fail)
          clear y0 y1
          go_wp2_with fail
          refine (hop _ (below_drewNs _ _ _)).mono ?_
          rintro e w3 ⟨rfl, hb3⟩
          go_wp2
          go_ret2
          exact .inl ⟨HR2.out, rfl, hb.trans (((below_drewNs wr.heap.size wr nq).trans hb3).mono hB1)⟩
        | true =>
          rw [ho] at HR hopen
          rw [if_pos rfl, Option.map_map] at HR
          have hop := fun W (hW : Below wr.heap.size wr W) => open_yes (some ⟨blk, off, none⟩) (z + 2) c _ _ W (hbt.next hB1 hW) (by omega) (by omega) (by have := hW.size; omega) hopen.symm
          have elem : ((l.take (z + 6)).take (z + 2)).drop 2 = (l.take (z + 2)).drop 2 := by rw [List.take_take, Nat.min_eq_left (by omega)]
          have HEL := Lib.hid elem
          have HR2 := Lib.hid HR.out
          have hdr := hbs.drop (k := Wal.size z * 128) (cap := c) (by have := HN.out; omega) hNc
          obtain ⟨sz, hszn⟩ : ∃ sz, Wal.size z = sz := ⟨_, rfl⟩
          have hsize := fun W => size_any z W (by omega)
          rw [hszn] at HR2 hs8 hsz hsp hsm hsize hdr
          have HSM := Lib.hid hsm
          have HSZ := Lib.hid hsz.2
          have hszle : sz * 128 ≤ N := by have := HN.out; omega
          have hsz1 := hsz.1
          have hdropl : Hid (N - sz * 128 = (m' + 1 - sz) * 128) := Lib.hid (by rw [Nat.sub_mul, ← HN.out])
          clear HR hbs ho hopen hbt elem hszn hsz hsm
          have y0 : IntKind.i64.wrap (x0 : Int) = (x0 : Int) := IntWalk.i64_in _ (by omega)
          have y1 : IntKind.i64.wrap (x1 : Int) = (x1 : Int) := IntWalk.i64_in _ (by omega)
          go_wp2_with fail
          go_quiet (fail)
          clear y0 y1
          go_wp2_with fail
          refine (hop _ (below_drewNs _ _ _)).mono ?_
          rintro e w3 ⟨A3, c3, rfl, g5, g6, hown, hb3⟩
          clear hop
          have hb13 : Below wr.heap.size wr w3 := (below_drewNs wr.heap.size wr nq).trans hb3
          have hB3 : w.heap.size ≤ w3.heap.size := Nat.le_trans hB1 hb13.size
          have hrow3 := hrow.below hb13
          have hel := (Bs.of_own hown).drop (k := 2) (cap := c3) (by omega) g5
          rw [HEL.out] at hel
          obtain ⟨gg, hA3, hg1, hg2⟩ := own_some hown (by omega)
          subst hA3
          have hb03 := hb.trans (hb13.mono hB1)
          have hdr3 := (hdr.below (hb13.mono hB1))
          have hrl : ∀ g, (Value.slice A4 k c4).ownBlock = some g → g < wr.heap.size := fun g hg => (hrow.own.lt g hg).2
          clear hown hrow hdr
          have h63 : k + 1 ≤ maxLen := by unfold maxLen; omega
          have hk24 : (k + 1) * 24 ≤ 140737488355328 := by omega
          have hEl : ∃ (Ae : Option Addr) (ce : Nat), z ≤ ce ∧ ce ≤ 9223372036854775807 ∧ Bs w3 w3.heap.size Ae z ((l.take (z + 2)).drop 2) ∧ (∀ a', Ae = some a' → 0 < z → a'.block ∉ ([] : List Nat) ∧ (Value.slice A4 k c4).ownBlock ≠ some a'.block) ∧ ((c3 = 2 ∧ z = 0 ∧ Ae = some ⟨gg, 0, none⟩ ∧ ce = 0) ∨ (¬ c3 = 2 ∧ Ae = some ⟨gg, 2, none⟩ ∧ ce = c3 - 2)) := by
            have hne : (Value.slice A4 k c4).ownBlock ≠ some gg := fun e => by
              have h1 := hrl gg e
              have h2 : wr.heap.size ≤ gg := hg1
              omega
            by_cases hc3 : c3 = 2
            · obtain rfl : z = 0 := by omega
              rw [if_pos hc3] at hel
              exact ⟨_, 0, by omega, by omega, hel, fun a' ha _ => ⟨by simp, by injection ha with ha; subst ha; exact hne⟩, .inl ⟨hc3, rfl, rfl, rfl⟩⟩
            · rw [if_neg hc3] at hel
              exact ⟨some ⟨gg, 2, none⟩, c3 - 2, by omega, by omega, hel, fun a' ha _ => ⟨by simp, by injection ha with ha; subst ha; exact hne⟩, .inr ⟨hc3, rfl, rfl⟩⟩
          obtain ⟨Ae, ce, ee1, ee2, hel2, ee3, hway⟩ := hEl
          have hlastN : ∀ w4 : World, Below w.heap.size w w4 → (∀ p : Addr, p.block < w.heap.size → w4.cell? p = w3.cell? p) → ∃ (A6 : Option Addr) (c6 : Nat), N - sz * 128 ≤ c6 ∧ c6 ≤ 9223372036854775807 ∧ Bs w4 w.heap.size A6 (N - sz * 128) (l.drop (sz * 128)) ∧ ((sz * 128 < N ∧ A6 = some ⟨blk, off + sz * 128, none⟩ ∧ c6 = c - sz * 128) ∨ (sz * 128 = N ∧ c = N ∧ A6 = some ⟨blk, off, none⟩ ∧ c6 = 0) ∨ (sz * 128 = N ∧ ¬ c = N ∧ A6 = some ⟨blk, off + N, none⟩ ∧ c6 = c - N)) := by
            intro w4 _ hk
            have h1 := hdr3.keep hk
            by_cases hcc : c = sz * 128
            · rw [if_pos hcc] at h1
              exact ⟨_, 0, by omega, by omega, h1, .inr (.inl ⟨by omega, by omega, rfl, rfl⟩)⟩
            · rw [if_neg hcc] at h1
              have e : Option.map (fun x : Addr => x.add (sz * 128)) (some (⟨blk, off, none⟩ : Addr)) = some ⟨blk, off + sz * 128, none⟩ := by
                simp only [Option.map_some]
                congr 1
                unfold Addr.add
                split <;> simp_all
              rw [e] at h1
              by_cases hl2 : sz * 128 < N
              · exact ⟨_, _, by omega, by omega, h1, .inl ⟨hl2, rfl, rfl⟩⟩
              · have e2 : sz * 128 = N := by omega
                exact ⟨some ⟨blk, off + N, none⟩, c - N, by omega, by omega, by rw [show off + N = off + sz * 128 by omega]; exact h1, .inr (.inr ⟨e2, by omega, rfl, rfl⟩)⟩
          have HLAST := Lib.hid hlastN
          clear hlastN hel hdr3
          have hmin : min (N : Int) ((sz : Int) * 128) = (sz : Int) * 128 := by omega
          rcases hway with ⟨hc3, rfl, rfl, rfl⟩ | ⟨hc3, rfl, rfl⟩
          all_goals
            go_wp2_with (at_builtin; go_must (refine wpList_pushAt rfl (.tmp 42) (.tmp 45) 23 rfl w.heap.size iB (.slice none 0 0) 24 Try.underlying23 hiB hzB hsB hbB rfl _ _ _ rfl hrow3.own rfl rfl h63 hk24 hB3 ?_))
            intro A5 c5 w4 hown4 g7 g8 hgr hwhere
            have hrow4 := hrow3.push hel2 ee1 ee2 ee3 hown4 hgr hwhere
            have hb4 : Below w.heap.size w w4 := below_push hb03 hgr hB3 hrow3.own (Nat.le_refl _)
            obtain ⟨A6, c6, k1, k2, hbs4, hend⟩ := HLAST.out w4 hb4 fun p hp => by
              have hne : some p.block ≠ (Value.slice A4 k c4).ownBlock := fun e => by
                have := (hrow3.own.lt p.block e.symm).1
                omega
              rw [World.cell?_of_block (hgr.block p.block (by simp; omega) hne), World.cell?_alloc_lt _ _ _ (by omega)]
            clear hown4 hgr hwhere hrow3 hel2 ee3
            have hxl := hbs4.len
            rw [hdropl.out] at hxl
            have hrr := HR2.out
            rw [Wal.parse_fuel (m' + 1 - sz) m' (m' + 1 - sz) _ hxl (by omega) (Nat.le_refl _), comp_push] at hrr
            have HR3 := Lib.hid hrr
            have hmm : sz ≤ m' + 1 := HSM.out
            clear hxl hrr
            rcases hend with ⟨hcc, rfl, rfl⟩ | ⟨hcc, hcN, rfl, rfl⟩ | ⟨hcc, hcN, rfl, rfl⟩
            · have hi : ((sz : Int) * 128 < (N : Int)) := by omega
              go_wp2_with fail
              refine (hsize _).mono ?_
              rintro e w5 ⟨rfl, rfl⟩
              go_wp2
              go_roundw
              case rel => exact ⟨m' + 1 - sz, N - sz * 128, c - sz * 128, k + 1, _, _, A5, c5, _, _, rfl, hdropl, by omega, by omega, by omega, rfl, g7, by omega, hbs4, hrow4, HR3, hb4⟩
              case measure => simp; omega
            all_goals
              have hd0 : N - sz * 128 = 0 := by omega
              rw [hd0] at hbs4
              have HD0 : Hid (0 = (m' + 1 - sz) * 128) := Lib.hid (by rw [← hdropl.out, hd0])
              have hi : ¬ ((sz : Int) * 128 < (N : Int)) := by omega
              first
              | (obtain rfl : c = N := hcN
                 clear hd0 hcc
                 go_wp2_with fail
                 refine (hsize _).mono ?_
                 rintro e w5 ⟨rfl, rfl⟩
                 go_wp2
                 go_roundw
                 case rel => exact ⟨m' + 1 - sz, 0, 0, k + 1, _, _, A5, c5, _, _, rfl, HD0, by omega, by omega, by omega, rfl, g7, by omega, hbs4, hrow4, HR3, hb4⟩
                 case measure => simp; omega)
              | (clear hd0 hcc
                 go_wp2_with fail
                 refine (hsize _).mono ?_
                 rintro e w5 ⟨rfl, rfl⟩
                 go_wp2
                 go_roundw
                 case rel => exact ⟨m' + 1 - sz, 0, c - N, k + 1, _, _, A5, c5, _, _, rfl, HD0, by omega, by omega, by omega, rfl, g7, by omega, hbs4, hrow4, HR3, hb4⟩
                 case measure => simp; omega)
    · obtain rfl : N = 0 := by omega
      obtain rfl : m = 0 := by have := HN.out; omega
      have hr : R = some L := by rw [HR.out]; simp [Wal.parse]
      have HR2 := Lib.hid hr
      clear hr HR HN hpos hbs
      go_wp2
      go_ret2
      exact .inr ⟨L, A4, k, c4, xs, HR2.out, rfl, hk4, hrow, hb⟩
end Go.Proofs.Ytgaplcgenlphdaa
