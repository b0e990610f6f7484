/- THE WALKS of the reference's few and Cut (printed by gencut.py). -/
import Derived.Test.YtmbpnkacggngkaaGreatDoorShaNames
import Derived.Test.YtmbpnkacggngkaaGreatDoorLedOpR
import Derived.Test.YtmbpnkacggngkaaGreatDoorLedCodesSpec
import Derived.Test.YtmbpnkacggngkaaGreatDoorTexts
import Derived.Test.YtmbpnkacggngkaaGreatDoorMixR
import Derived.Test.YtmbpnkacggngkaaGreatDoorLedMany
import Derived.Test.YtmbpnkacggngkaaGreatDoorConv
import Derived.Deep.RegionHeld3
namespace Go.Proofs.YtmbpnkacggngkaaGreatDoor
open Go.RowKit Mem Led

set_option maxRecDepth 100000 in
set_option maxHeartbeats 1000000 in
theorem few_any (s : Txt) (hs : s.length ≤ 9223372036854775807) (w : World) : Calls Tryz.prog 24 #[.string (str s)] w fun e w' => e = .returned (.string (str (Led.few s))) ∧ w = w' := by
  have hz := Lib.hid (str_size s)
  by_cases h : s.length ≤ 60
  · have e : Led.few s = s := by unfold Led.few; exact List.take_of_length_le h
    rw [e]
    have h1 : (str s).size ≤ 60 := by rw [hz.out]; exact h
    go_enter Tryz.func24, Tryz.ntmps24
    go_wp2
    go_ret
    exact ⟨rfl, rfl⟩
  · have h1 : 60 < (str s).size := by rw [hz.out]; omega
    have h2 : (str s).size ≤ 9223372036854775807 := by rw [hz.out]; omega
    have hsl : ∀ w', (Instr.slice 9 (.string (str s)) none (some (.int .i64 60)) none).run Tryz.prog w' = .ok (.string (str (Led.few s))) w' := fun w' => by
      have e : (str s).extract 0 60 = str (Led.few s) := by
        apply ByteArray.ext
        apply Array.toList_inj.1
        simp [str, Led.few]
      have hj : (0 : Int) ≤ 60 ∧ (60 : Int) ≤ ((str s).size : Int) := ⟨by omega, by omega⟩
      rw [← e]
      simp [Instr.slice, Instr.sliceBounds, Instr.sliceBound, asIntOf, run_underlying Tryz.underlying9, hj]
    go_enter Tryz.func24, Tryz.ntmps24
    go_wp2
    go_ret
    exact ⟨rfl, rfl⟩
theorem below_own2 {w w' : World} {base size : Nat} {e : TypeId} {v : Value} {n : Nat} {xs : List Value} (h : w.ownsRow base e size v n xs) (hb : Below w.heap.size w w') : w'.ownsRow base e size v n xs := by
  refine ⟨h.1, ?_⟩
  rcases h.2 with h2 | ⟨g, cap, cur, hv, hg, hh, r⟩
  · exact .inl h2
  · exact .inr ⟨g, cap, cur, hv, hg, by rw [hb.block g (Array.getElem?_eq_some_iff.1 hh).1]; exact hh, r⟩
theorem few_q (s : Txt) (hs : s.length ≤ 9223372036854775807) (w : World) : Calls Tryz.prog 24 #[.string (str s)] w fun e w' => e = .returned (.string (str (Led.few s))) ∧ Below w.heap.size w w' :=
  (few_any s hs w).mono fun e w' ⟨he, hw⟩ => ⟨he, by rw [← hw]; exact Below.refl _ _⟩
theorem infoJ : (Tryz.prog.info? 54).map (fun i => (i.zero, i.size, i.bytes)) = some (some (.agg #[.string ⟨#[]⟩, .string ⟨#[]⟩]), 2, 32) := by kernel_rfl
def fewT (L : List Txt) (t : Nat) : List Value := tv ((L.take t).map Led.few)
theorem fewT_snoc (L : List Txt) (t : Nat) (h : t < L.length) : fewT L t ++ [.string (str (Led.few (L[t]'h)))] = fewT L (t + 1) := by
  unfold fewT
  rw [List.take_add_one, List.getElem?_eq_getElem h, Option.toList_some, List.map_append, tv_append]
  rfl
def oc (kind n : Int) (name : Txt) (en : Int) (path parent : Txt) (ttl : Int) (S : Value) (jtext jname : Txt) (jexp : Int) (used : Bool) (nname nkey : Txt) (nexp nseq : Int) (ndoc kid seed : Txt) (state since : Int) (dom : Txt) (num : Int) (K : Value) : List Value :=
  [.int .i64 kind, .int .i64 n, .string (str name), .int .i64 en, .string (str path), .string (str parent), .int .i64 ttl, S, .string (str jtext), .string (str jname), .int .i64 jexp, .bool used, .string (str nname), .string (str nkey), .int .i64 nexp, .int .i64 nseq, .string (str ndoc), .string (str kid), .string (str seed), .int .i64 state, .int .i64 since, .string (str dom), .int .i64 num, K]
theorem oc_one (kind n : Int) (name : Txt) (en : Int) (path parent : Txt) (ttl : Int) (A : Option Addr) (x y : Nat) (jtext jname : Txt) (jexp : Int) (used : Bool) (nname nkey : Txt) (nexp nseq : Int) (ndoc kid seed : Txt) (state since : Int) (dom : Txt) (num : Int) (B : Option Addr) (z q : Nat) : ∀ v ∈ oc kind n name en path parent ttl (.slice A x y) jtext jname jexp used nname nkey nexp nseq ndoc kid seed state since dom num (.slice B z q), v.oneCell' = true := by
  intro v hv
  simp only [oc, List.mem_cons, List.not_mem_nil, or_false] at hv
  rcases hv with rfl | rfl | rfl | rfl | rfl | rfl | rfl | rfl | rfl | rfl | rfl | rfl | rfl | rfl | rfl | rfl | rfl | rfl | rfl | rfl | rfl | rfl | rfl | rfl <;> rfl
theorem own_setCells2 : ∀ (vs : List Value) {w : World} {base n g k size : Nat} {v : Value} {e : TypeId} {xs : List Value}, w.ownsRow base e size v n xs → g < base → (w.setCells g k vs).ownsRow base e size v n xs
  | [], _, _, _, _, _, _, _, _, _, h, _ => h
  | u :: vs, _, _, _, _, _, _, _, _, _, h, hg => own_setCells2 vs (ownsRow_setCell_below h hg u) hg
set_option maxRecDepth 100000 in
set_option maxHeartbeats 8000000 in
theorem cut_go (kind n : Int) (name : Txt) (en : Int) (path parent : Txt) (ttl : Int) (jtext jname : Txt) (jexp : Int) (used : Bool) (nname nkey : Txt) (nexp nseq : Int) (ndoc kid seed : Txt) (state since : Int) (dom : Txt) (num : Int) (As : Option Addr) (ns cS : Nat) (Ak : Option Addr) (nk cK : Nat) (sels : List Txt) (keys : List Jwk) (z_name : name.length ≤ 9223372036854775807) (z_path : path.length ≤ 9223372036854775807) (z_parent : parent.length ≤ 9223372036854775807) (z_jtext : jtext.length ≤ 9223372036854775807) (z_jname : jname.length ≤ 9223372036854775807) (z_nname : nname.length ≤ 9223372036854775807) (z_nkey : nkey.length ≤ 9223372036854775807) (z_ndoc : ndoc.length ≤ 9223372036854775807) (z_kid : kid.length ≤ 9223372036854775807) (z_seed : seed.length ≤ 9223372036854775807) (z_dom : dom.length ≤ 9223372036854775807) (w : World)
    (hs : Ts w As ns sels) (hsz : ∀ s ∈ sels, s.length ≤ 9223372036854775807) (_hsc : ns ≤ cS) (hk : Vs w w.heap.size 2 Ak nk (jv keys)) (hkz : ∀ k ∈ keys, k.kid.length ≤ 9223372036854775807 ∧ k.x.length ≤ 9223372036854775807) (_hkc : nk ≤ cK) :
    Calls Tryz.prog 13 #[.agg (oc kind n name en path parent ttl (.slice As ns cS) jtext jname jexp used nname nkey nexp nseq ndoc kid seed state since dom num (.slice Ak nk cK)).toArray] w fun e w' => ∃ A1 c1 A2 c2 KK, e = .returned (.agg (oc kind n (Led.few name) en (Led.few path) (Led.few parent) ttl (.slice A1 (min ns 6) c1) (Led.few jtext) (Led.few jname) jexp used (Led.few nname) (Led.few nkey) nexp nseq (Led.few ndoc) (Led.few kid) (Led.few seed) state since (Led.few dom) num (.slice A2 (min nk 9) c2)).toArray) ∧ min ns 6 ≤ c1 ∧ min nk 9 ≤ c2 ∧
      w'.ownsRow w.heap.size 9 1 (.slice A1 (min ns 6) c1) (min ns 6) (tv ((sels.take 6).map Led.few)) ∧ w'.ownsRow w.heap.size 54 2 (.slice A2 (min nk 9) c2) (min nk 9) (jv KK) ∧ KeysTo (fun x r => r = Sha.nameOf x) (keys.take 9) KK ∧ Below w.heap.size w w' := by
  obtain ⟨W, hW⟩ : ∃ W, (w.alloc (.cells (oc kind n name en path parent ttl (.slice As ns cS) jtext jname jexp used nname nkey nexp nseq ndoc kid seed state since dom num (.slice Ak nk cK)).toArray 47)).alloc (.cells (opCells noOp (.slice none 0 0) (.slice none 0 0)).toArray 47) = W := ⟨_, rfl⟩
  have B : Blk W w.heap.size (oc kind n name en path parent ttl (.slice As ns cS) jtext jname jexp used nname nkey nexp nseq ndoc kid seed state since dom num (.slice Ak nk cK)) 47 := by rw [← hW]; exact (Blk.new _ _ _).alloc _
  have BR : Blk W (w.heap.size + 1) (opCells noOp (.slice none 0 0) (.slice none 0 0)) 47 := by
    have := Blk.new (w.alloc (.cells (oc kind n name en path parent ttl (.slice As ns cS) jtext jname jexp used nname nkey nexp nseq ndoc kid seed state since dom num (.slice Ak nk cK)).toArray 47)) (opCells noOp (.slice none 0 0) (.slice none 0 0)) 47
    rw [← hW]
    simpa using this
  have hbW : Below w.heap.size w W := by rw [← hW]; exact ((Below.refl _ _).alloc (Nat.le_refl _) _).alloc (by simp) _
  have hc : Chg [w.heap.size] W W := Chg.refl _ _
  unfold oc opCells noOp at hW
  simp only [nm, tx, show str [] = ⟨#[]⟩ from rfl] at hW
  have HW := Lib.hid hW
  clear hW
  unfold oc
  go_enter Tryz.func13, Tryz.ntmps13
  go_upto_region 1 with fail
  rw [HW.out]
  have q : W.cell? ⟨w.heap.size, 2, none⟩ = some (.string (str name)) := B.cell 2
  have qf : W.frozen? ⟨w.heap.size, 2, none⟩ = false := B.froz 2
  have ql := B.lt
  go_wp2_with fail
  refine (few_any name z_name W).mono ?_
  rintro e w' ⟨rfl, rfl⟩
  go_upto_region 2 with fail
  have B' : Blk (W.setCell ⟨w.heap.size, 2, none⟩ (.string (str (Led.few name)))) w.heap.size (oc kind n (Led.few name) en path parent ttl (.slice As ns cS) jtext jname jexp used nname nkey nexp nseq ndoc kid seed state since dom num (.slice Ak nk cK)) 47 := B.set 2 (.string (str (Led.few name)))
  have BR' := BR.set_ne (p := ⟨w.heap.size, 2, none⟩) (by simp) (.string (str (Led.few name)))
  have hc' := hc.setCell (p := ⟨w.heap.size, 2, none⟩) (.inl (by simp)) (.string (str (Led.few name)))
  generalize W.setCell ⟨w.heap.size, 2, none⟩ (.string (str (Led.few name))) = W1 at *
  clear B BR hc q qf ql
  have B := B'
  have BR := BR'
  have hc := hc'
  clear B' BR' hc'
  have q : W1.cell? ⟨w.heap.size, 4, none⟩ = some (.string (str path)) := B.cell 4
  have qf : W1.frozen? ⟨w.heap.size, 4, none⟩ = false := B.froz 4
  have ql := B.lt
  go_wp2_with fail
  refine (few_any path z_path W1).mono ?_
  rintro e w' ⟨rfl, rfl⟩
  go_upto_region 3 with fail
  have B' : Blk (W1.setCell ⟨w.heap.size, 4, none⟩ (.string (str (Led.few path)))) w.heap.size (oc kind n (Led.few name) en (Led.few path) parent ttl (.slice As ns cS) jtext jname jexp used nname nkey nexp nseq ndoc kid seed state since dom num (.slice Ak nk cK)) 47 := B.set 4 (.string (str (Led.few path)))
  have BR' := BR.set_ne (p := ⟨w.heap.size, 4, none⟩) (by simp) (.string (str (Led.few path)))
  have hc' := hc.setCell (p := ⟨w.heap.size, 4, none⟩) (.inl (by simp)) (.string (str (Led.few path)))
  generalize W1.setCell ⟨w.heap.size, 4, none⟩ (.string (str (Led.few path))) = W2 at *
  clear B BR hc q qf ql
  have B := B'
  have BR := BR'
  have hc := hc'
  clear B' BR' hc'
  have q : W2.cell? ⟨w.heap.size, 5, none⟩ = some (.string (str parent)) := B.cell 5
  have qf : W2.frozen? ⟨w.heap.size, 5, none⟩ = false := B.froz 5
  have ql := B.lt
  go_wp2_with fail
  refine (few_any parent z_parent W2).mono ?_
  rintro e w' ⟨rfl, rfl⟩
  go_upto_region 4 with fail
  have B' : Blk (W2.setCell ⟨w.heap.size, 5, none⟩ (.string (str (Led.few parent)))) w.heap.size (oc kind n (Led.few name) en (Led.few path) (Led.few parent) ttl (.slice As ns cS) jtext jname jexp used nname nkey nexp nseq ndoc kid seed state since dom num (.slice Ak nk cK)) 47 := B.set 5 (.string (str (Led.few parent)))
  have BR' := BR.set_ne (p := ⟨w.heap.size, 5, none⟩) (by simp) (.string (str (Led.few parent)))
  have hc' := hc.setCell (p := ⟨w.heap.size, 5, none⟩) (.inl (by simp)) (.string (str (Led.few parent)))
  generalize W2.setCell ⟨w.heap.size, 5, none⟩ (.string (str (Led.few parent))) = W3 at *
  clear B BR hc q qf ql
  have B := B'
  have BR := BR'
  have hc := hc'
  clear B' BR' hc'
  have hltW : w.heap.size < W3.heap.size := B.lt
  have hltR : w.heap.size + 1 < W3.heap.size := BR.lt
  have hb3 : Below w.heap.size w W3 := hbW.trans (hc.below' hbW.size (by simp))
  have hs3 : Ts W3 As ns sels := (Vs.below hs hb3).mono hb3.size
  have HK0 := Lib.hid hk
  have HSL := Lib.hid hs3.len
  obtain ⟨i0, hi, hz0, hz1, hz2⟩ := info_parts infoT
  obtain ⟨iJ, hiJ, hj0, hj1, hj2⟩ := info_parts infoJ
  obtain ⟨m, hm⟩ : ∃ m, min ns 6 = m := ⟨_, rfl⟩
  have hmn : m ≤ ns := by omega
  have hm6 : m ≤ 6 := by omega
  have HM := Lib.hid (show m < ns → m = 6 by omega)
  have HMM := Lib.hid hm
  clear hs hk hm
  go_wp2_with fail
  go_loopw [3, 4] (fun v i wx => ∃ (t : Nat) (A : Option Addr) (c : Nat), t ≤ m ∧ i = .int .i64 (t : Int) ∧ v = .slice A t c ∧ t ≤ c ∧ Below W3.heap.size W3 wx ∧ wx.ownsRow W3.heap.size 9 1 (.slice A t c) t (fewT sels t)) (fun _ i _ => 6 - (intOf i).toNat)
  case atStart => exact ⟨0, none, 0, by omega, rfl, rfl, by omega, Below.refl _ _, World.ownsRow_nil _ _ _ _⟩
  case round =>
    obtain ⟨t, A1, c1, ht, rfl, rfl, htc, hbx, hown⟩ := hrel
    have q7 : wr.cell? ⟨w.heap.size, 7, none⟩ = some (.slice As ns cS) := (B.below hbx).cell 7
    by_cases htm : t < m
    · have htn : t < ns := by omega
      have ht6 : t < 6 := by omega
      have htl : t < sels.length := by rw [HSL.out]; exact htn
      obtain ⟨bs, os, hAe, hbs, hcs⟩ := vs_lit (xs := tv sels) hs3 (by omega)
      have qe : wr.cell? ⟨bs, os + t, none⟩ = some (.string (str (sels[t]'htl))) := (hbx.cell (p := ⟨bs, os + t, none⟩) hbs).trans (hcs t _ (by simp [tv, htl]))
      have hzt := hsz (sels[t]'htl) (List.getElem_mem _)
      have HS := Lib.hid (fewT_snoc sels t htl)
      generalize sels[t]'htl = st at *
      rw [hAe] at q7
      have j0 : (0 : Int) ≤ (t : Int) := by omega
      have j1 : (t : Int) < (ns : Int) := by omega
      have j2 : (t : Int) < 6 := by omega
      have h63 : t + 1 ≤ maxLen := by unfold maxLen; omega
      have hB1 : W3.heap.size ≤ wr.heap.size := hbx.size
      clear hcs hAe
      go_wp2_with fail
      refine (few_any st hzt wr).mono ?_
      rintro e w' ⟨rfl, rfl⟩
      go_wp2_with (at_builtin; go_must (refine wpList_push rfl (.tmp 36) (.tmp 44) 25 rfl W3.heap.size i0 (.string ⟨#[]⟩) 16 Tryz.underlying25 hi hz0 hz1 hz2 rfl _ _ _ rfl hown rfl rfl h63 (by omega) hB1 ?_))
      intro A' c' w6 hown' g1' g2' hgr
      have hb6 := below_push hbx hgr hB1 hown (Nat.le_refl _)
      rw [HS.out] at hown'
      clear hown hgr hbx
      go_wp2
      go_roundw
      case rel => exact ⟨t + 1, A', c', by omega, by go_num, rfl, g1', hb6, hown'⟩
      case measure => simp [intOf]; omega
    · have hte : t = m := by omega
      subst hte
      have q7f : wr.frozen? ⟨w.heap.size, 7, none⟩ = false := (B.below hbx).froz 7
      have ql : w.heap.size < wr.heap.size := (B.below hbx).lt
      have hcX := hc.and_below hbx
      have BX := B.below hbx
      have BRX := BR.below hbx
      clear B BR hc hs3
      have hownS : wr.ownsRow W3.heap.size 9 1 (.slice A1 t c1) t (fewT sels t) := hown
      have BX' : Blk (wr.setCell ⟨w.heap.size, 7, none⟩ (.slice A1 t c1)) w.heap.size (oc kind n (Led.few name) en (Led.few path) (Led.few parent) ttl (.slice A1 t c1) jtext jname jexp used nname nkey nexp nseq ndoc kid seed state since dom num (.slice Ak nk cK)) 47 := BX.set 7 (.slice A1 t c1)
      have BR' := BRX.set_ne (p := ⟨w.heap.size, 7, none⟩) (by simp) (.slice A1 t c1)
      have hc' := hcX.setCell (p := ⟨w.heap.size, 7, none⟩) (.inl (by simp)) (.slice A1 t c1)
      have hown4 := ownsRow_setCell_below hownS (a := ⟨w.heap.size, 7, none⟩) (by exact hltW) (.slice A1 t c1)
      have htge : t < ns → 6 ≤ t := fun h => by have := HM.out h; omega
      have HTG := Lib.hid htge
      clear hbx BX BRX hcX hown
      have hdd : (t < ns ∧ 6 ≤ t) ∨ ns ≤ t := by
        rcases Nat.lt_or_ge t ns with hd | hd
        · exact .inl ⟨hd, htge hd⟩
        · exact .inr hd
      have HMT := Lib.hid (show t = min ns 6 from HMM.out.symm)
      have htc' : t ≤ c1 := htc
      have ht6 : t ≤ 6 := hm6
      clear htge hmn ht htm hownS hm6
      rcases hdd with ⟨hd, hd6⟩ | hd
      all_goals
        go_upto_region 10 with fail
        generalize wr.setCell ⟨w.heap.size, 7, none⟩ (.slice A1 t c1) = W4 at *
        clear q7 q7f ql hd
        have B := BX'
        have BR := BR'
        have hc := hc'
        have hown := hown4
        clear BX' BR' hc' hown4
        have q : W4.cell? ⟨w.heap.size, 8, none⟩ = some (.string (str jtext)) := B.cell 8
        have qf : W4.frozen? ⟨w.heap.size, 8, none⟩ = false := B.froz 8
        have ql := B.lt
        go_wp2_with fail
        refine (few_any jtext z_jtext W4).mono ?_
        rintro e w' ⟨rfl, rfl⟩
        go_upto_region 11 with fail
        have B' : Blk (W4.setCell ⟨w.heap.size, 8, none⟩ (.string (str (Led.few jtext)))) w.heap.size (oc kind n (Led.few name) en (Led.few path) (Led.few parent) ttl (.slice A1 t c1) (Led.few jtext) jname jexp used nname nkey nexp nseq ndoc kid seed state since dom num (.slice Ak nk cK)) 47 := B.set 8 (.string (str (Led.few jtext)))
        have BR' := BR.set_ne (p := ⟨w.heap.size, 8, none⟩) (by simp) (.string (str (Led.few jtext)))
        have hc' := hc.setCell (p := ⟨w.heap.size, 8, none⟩) (.inl (by simp)) (.string (str (Led.few jtext)))
        have hown' := ownsRow_setCell_below hown (a := ⟨w.heap.size, 8, none⟩) (by exact hltW) (.string (str (Led.few jtext)))
        generalize W4.setCell ⟨w.heap.size, 8, none⟩ (.string (str (Led.few jtext))) = W5 at *
        clear B BR hc hown q qf ql
        have B := B'
        have BR := BR'
        have hc := hc'
        have hown := hown'
        clear B' BR' hc' hown'
        have q : W5.cell? ⟨w.heap.size, 9, none⟩ = some (.string (str jname)) := B.cell 9
        have qf : W5.frozen? ⟨w.heap.size, 9, none⟩ = false := B.froz 9
        have ql := B.lt
        go_wp2_with fail
        refine (few_any jname z_jname W5).mono ?_
        rintro e w' ⟨rfl, rfl⟩
        go_upto_region 12 with fail
        have B' : Blk (W5.setCell ⟨w.heap.size, 9, none⟩ (.string (str (Led.few jname)))) w.heap.size (oc kind n (Led.few name) en (Led.few path) (Led.few parent) ttl (.slice A1 t c1) (Led.few jtext) (Led.few jname) jexp used nname nkey nexp nseq ndoc kid seed state since dom num (.slice Ak nk cK)) 47 := B.set 9 (.string (str (Led.few jname)))
        have BR' := BR.set_ne (p := ⟨w.heap.size, 9, none⟩) (by simp) (.string (str (Led.few jname)))
        have hc' := hc.setCell (p := ⟨w.heap.size, 9, none⟩) (.inl (by simp)) (.string (str (Led.few jname)))
        have hown' := ownsRow_setCell_below hown (a := ⟨w.heap.size, 9, none⟩) (by exact hltW) (.string (str (Led.few jname)))
        generalize W5.setCell ⟨w.heap.size, 9, none⟩ (.string (str (Led.few jname))) = W6 at *
        clear B BR hc hown q qf ql
        have B := B'
        have BR := BR'
        have hc := hc'
        have hown := hown'
        clear B' BR' hc' hown'
        have q : W6.cell? ⟨w.heap.size, 12, none⟩ = some (.string (str nname)) := B.cell 12
        have qf : W6.frozen? ⟨w.heap.size, 12, none⟩ = false := B.froz 12
        have ql := B.lt
        go_wp2_with fail
        refine (few_any nname z_nname W6).mono ?_
        rintro e w' ⟨rfl, rfl⟩
        go_upto_region 13 with fail
        have B' : Blk (W6.setCell ⟨w.heap.size, 12, none⟩ (.string (str (Led.few nname)))) w.heap.size (oc kind n (Led.few name) en (Led.few path) (Led.few parent) ttl (.slice A1 t c1) (Led.few jtext) (Led.few jname) jexp used (Led.few nname) nkey nexp nseq ndoc kid seed state since dom num (.slice Ak nk cK)) 47 := B.set 12 (.string (str (Led.few nname)))
        have BR' := BR.set_ne (p := ⟨w.heap.size, 12, none⟩) (by simp) (.string (str (Led.few nname)))
        have hc' := hc.setCell (p := ⟨w.heap.size, 12, none⟩) (.inl (by simp)) (.string (str (Led.few nname)))
        have hown' := ownsRow_setCell_below hown (a := ⟨w.heap.size, 12, none⟩) (by exact hltW) (.string (str (Led.few nname)))
        generalize W6.setCell ⟨w.heap.size, 12, none⟩ (.string (str (Led.few nname))) = W7 at *
        clear B BR hc hown q qf ql
        have B := B'
        have BR := BR'
        have hc := hc'
        have hown := hown'
        clear B' BR' hc' hown'
        have q : W7.cell? ⟨w.heap.size, 13, none⟩ = some (.string (str nkey)) := B.cell 13
        have qf : W7.frozen? ⟨w.heap.size, 13, none⟩ = false := B.froz 13
        have ql := B.lt
        go_wp2_with fail
        refine (few_any nkey z_nkey W7).mono ?_
        rintro e w' ⟨rfl, rfl⟩
        go_upto_region 14 with fail
        have B' : Blk (W7.setCell ⟨w.heap.size, 13, none⟩ (.string (str (Led.few nkey)))) w.heap.size (oc kind n (Led.few name) en (Led.few path) (Led.few parent) ttl (.slice A1 t c1) (Led.few jtext) (Led.few jname) jexp used (Led.few nname) (Led.few nkey) nexp nseq ndoc kid seed state since dom num (.slice Ak nk cK)) 47 := B.set 13 (.string (str (Led.few nkey)))
        have BR' := BR.set_ne (p := ⟨w.heap.size, 13, none⟩) (by simp) (.string (str (Led.few nkey)))
        have hc' := hc.setCell (p := ⟨w.heap.size, 13, none⟩) (.inl (by simp)) (.string (str (Led.few nkey)))
        have hown' := ownsRow_setCell_below hown (a := ⟨w.heap.size, 13, none⟩) (by exact hltW) (.string (str (Led.few nkey)))
        generalize W7.setCell ⟨w.heap.size, 13, none⟩ (.string (str (Led.few nkey))) = W8 at *
        clear B BR hc hown q qf ql
        have B := B'
        have BR := BR'
        have hc := hc'
        have hown := hown'
        clear B' BR' hc' hown'
        have q : W8.cell? ⟨w.heap.size, 16, none⟩ = some (.string (str ndoc)) := B.cell 16
        have qf : W8.frozen? ⟨w.heap.size, 16, none⟩ = false := B.froz 16
        have ql := B.lt
        go_wp2_with fail
        refine (few_any ndoc z_ndoc W8).mono ?_
        rintro e w' ⟨rfl, rfl⟩
        go_upto_region 15 with fail
        have B' : Blk (W8.setCell ⟨w.heap.size, 16, none⟩ (.string (str (Led.few ndoc)))) w.heap.size (oc kind n (Led.few name) en (Led.few path) (Led.few parent) ttl (.slice A1 t c1) (Led.few jtext) (Led.few jname) jexp used (Led.few nname) (Led.few nkey) nexp nseq (Led.few ndoc) kid seed state since dom num (.slice Ak nk cK)) 47 := B.set 16 (.string (str (Led.few ndoc)))
        have BR' := BR.set_ne (p := ⟨w.heap.size, 16, none⟩) (by simp) (.string (str (Led.few ndoc)))
        have hc' := hc.setCell (p := ⟨w.heap.size, 16, none⟩) (.inl (by simp)) (.string (str (Led.few ndoc)))
        have hown' := ownsRow_setCell_below hown (a := ⟨w.heap.size, 16, none⟩) (by exact hltW) (.string (str (Led.few ndoc)))
        generalize W8.setCell ⟨w.heap.size, 16, none⟩ (.string (str (Led.few ndoc))) = W9 at *
        clear B BR hc hown q qf ql
        have B := B'
        have BR := BR'
        have hc := hc'
        have hown := hown'
        clear B' BR' hc' hown'
        have q : W9.cell? ⟨w.heap.size, 17, none⟩ = some (.string (str kid)) := B.cell 17
        have qf : W9.frozen? ⟨w.heap.size, 17, none⟩ = false := B.froz 17
        have ql := B.lt
        go_wp2_with fail
        refine (few_any kid z_kid W9).mono ?_
        rintro e w' ⟨rfl, rfl⟩
        go_upto_region 16 with fail
        have B' : Blk (W9.setCell ⟨w.heap.size, 17, none⟩ (.string (str (Led.few kid)))) w.heap.size (oc kind n (Led.few name) en (Led.few path) (Led.few parent) ttl (.slice A1 t c1) (Led.few jtext) (Led.few jname) jexp used (Led.few nname) (Led.few nkey) nexp nseq (Led.few ndoc) (Led.few kid) seed state since dom num (.slice Ak nk cK)) 47 := B.set 17 (.string (str (Led.few kid)))
        have BR' := BR.set_ne (p := ⟨w.heap.size, 17, none⟩) (by simp) (.string (str (Led.few kid)))
        have hc' := hc.setCell (p := ⟨w.heap.size, 17, none⟩) (.inl (by simp)) (.string (str (Led.few kid)))
        have hown' := ownsRow_setCell_below hown (a := ⟨w.heap.size, 17, none⟩) (by exact hltW) (.string (str (Led.few kid)))
        generalize W9.setCell ⟨w.heap.size, 17, none⟩ (.string (str (Led.few kid))) = W10 at *
        clear B BR hc hown q qf ql
        have B := B'
        have BR := BR'
        have hc := hc'
        have hown := hown'
        clear B' BR' hc' hown'
        have q : W10.cell? ⟨w.heap.size, 18, none⟩ = some (.string (str seed)) := B.cell 18
        have qf : W10.frozen? ⟨w.heap.size, 18, none⟩ = false := B.froz 18
        have ql := B.lt
        go_wp2_with fail
        refine (few_any seed z_seed W10).mono ?_
        rintro e w' ⟨rfl, rfl⟩
        go_upto_region 17 with fail
        have B' : Blk (W10.setCell ⟨w.heap.size, 18, none⟩ (.string (str (Led.few seed)))) w.heap.size (oc kind n (Led.few name) en (Led.few path) (Led.few parent) ttl (.slice A1 t c1) (Led.few jtext) (Led.few jname) jexp used (Led.few nname) (Led.few nkey) nexp nseq (Led.few ndoc) (Led.few kid) (Led.few seed) state since dom num (.slice Ak nk cK)) 47 := B.set 18 (.string (str (Led.few seed)))
        have BR' := BR.set_ne (p := ⟨w.heap.size, 18, none⟩) (by simp) (.string (str (Led.few seed)))
        have hc' := hc.setCell (p := ⟨w.heap.size, 18, none⟩) (.inl (by simp)) (.string (str (Led.few seed)))
        have hown' := ownsRow_setCell_below hown (a := ⟨w.heap.size, 18, none⟩) (by exact hltW) (.string (str (Led.few seed)))
        generalize W10.setCell ⟨w.heap.size, 18, none⟩ (.string (str (Led.few seed))) = W11 at *
        clear B BR hc hown q qf ql
        have B := B'
        have BR := BR'
        have hc := hc'
        have hown := hown'
        clear B' BR' hc' hown'
        have q : W11.cell? ⟨w.heap.size, 21, none⟩ = some (.string (str dom)) := B.cell 21
        have qf : W11.frozen? ⟨w.heap.size, 21, none⟩ = false := B.froz 21
        have ql := B.lt
        go_wp2_with fail
        refine (few_any dom z_dom W11).mono ?_
        rintro e w' ⟨rfl, rfl⟩
        go_upto_region 18 with fail
        have B' : Blk (W11.setCell ⟨w.heap.size, 21, none⟩ (.string (str (Led.few dom)))) w.heap.size (oc kind n (Led.few name) en (Led.few path) (Led.few parent) ttl (.slice A1 t c1) (Led.few jtext) (Led.few jname) jexp used (Led.few nname) (Led.few nkey) nexp nseq (Led.few ndoc) (Led.few kid) (Led.few seed) state since (Led.few dom) num (.slice Ak nk cK)) 47 := B.set 21 (.string (str (Led.few dom)))
        have BR' := BR.set_ne (p := ⟨w.heap.size, 21, none⟩) (by simp) (.string (str (Led.few dom)))
        have hc' := hc.setCell (p := ⟨w.heap.size, 21, none⟩) (.inl (by simp)) (.string (str (Led.few dom)))
        have hown' := ownsRow_setCell_below hown (a := ⟨w.heap.size, 21, none⟩) (by exact hltW) (.string (str (Led.few dom)))
        generalize W11.setCell ⟨w.heap.size, 21, none⟩ (.string (str (Led.few dom))) = W12 at *
        clear B BR hc hown q qf ql
        have B := B'
        have BR := BR'
        have hc := hc'
        have hown := hown'
        clear B' BR' hc' hown'
        have hb12 : Below w.heap.size w W12 := hbW.trans (hc.below' hbW.size (by simp))
        have hk12 : Vs W12 W12.heap.size 2 Ak nk (jv keys) := (Vs.below HK0.out hb12).mono hb12.size
        have hlt12 := B.lt
        have hlt12R : w.heap.size + 1 < W12.heap.size := BR.lt
        have HKL := Lib.hid (show keys.length = nk by have := hk12.len; rw [jv_length] at this; omega)
        obtain ⟨m2, hm2⟩ : ∃ m2, min nk 9 = m2 := ⟨_, rfl⟩
        have hmn2 : m2 ≤ nk := by omega
        have hm9 : m2 ≤ 9 := by omega
        have HM2 := Lib.hid (show m2 < nk → m2 = 9 by omega)
        have HMM2 := Lib.hid hm2
        clear hm2
        go_wp2_with fail
        go_loopw [5, 6, 7] (fun v i _ wx => ∃ (u : Nat) (A : Option Addr) (c : Nat) (KK : List Jwk), u ≤ m2 ∧ i = .int .i64 (u : Int) ∧ v = .slice A u c ∧ u ≤ c ∧ Below W12.heap.size W12 wx ∧ wx.ownsRow W12.heap.size 54 2 (.slice A u c) u (jv KK) ∧ KeysTo (fun x r => r = Sha.nameOf x) (keys.take u) KK) (fun _ i _ _ => 9 - (intOf i).toNat)
        case atStart => exact ⟨0, none, 0, [], by omega, rfl, rfl, by omega, Below.refl _ _, World.ownsRow_nil _ _ _ _, trivial⟩
        case round =>
          obtain ⟨u, A2, c2, KK, hu, rfl, rfl, huc, hbx, hown2, hKK⟩ := hrel
          have HKK := Lib.hid hKK
          clear hKK
          have q7 : wr.cell? ⟨w.heap.size, 23, none⟩ = some (.slice Ak nk cK) := (B.below hbx).cell 23
          by_cases hum : u < m2
          · have hun : u < nk := by omega
            have hu9 : u < 9 := by omega
            have hul : u < keys.length := by rw [HKL.out]; exact hun
            have hjl : (jv keys).length = nk * 2 := hk12.len
            have hz2 : 0 < (jv keys).length := by omega
            have hwhere : ∃ bk ok, Ak = some ⟨bk, ok, none⟩ ∧ bk < W12.heap.size ∧ ∀ j x, (jv keys)[j]? = some x → W12.cell? ⟨bk, ok + j, none⟩ = some x := by
              have c0 := (hk12.rd 0 _ (List.getElem?_eq_getElem hz2))
              obtain ⟨ad, e, hb, hcx⟩ := c0
              have hsp := World.cell?_spot hcx
              obtain ⟨bk, ok, sp⟩ := ad
              simp [Addr.add] at hsp
              subst hsp
              refine ⟨bk, ok, e, hb, fun j x hj => ?_⟩
              obtain ⟨ad', e', _, hcj⟩ := hk12.rd j x hj
              rw [e] at e'
              injection e' with e'
              subst e'
              have : (⟨bk, ok, none⟩ : Addr).add j = ⟨bk, ok + j, none⟩ := by
                unfold Addr.add; split <;> simp_all
              rw [this] at hcj
              exact hcj
            obtain ⟨bk, ok, hAk, hbk, hcs⟩ := hwhere
            have qe0 : wr.cell? ⟨bk, ok + u * 2, none⟩ = some (.string (str (keys[u]'hul).kid)) := (hbx.cell (p := ⟨bk, ok + u * 2, none⟩) hbk).trans (hcs _ _ (jv_at0 hul))
            have qe1 : wr.cell? ⟨bk, ok + u * 2 + 1, none⟩ = some (.string (str (keys[u]'hul).x)) := (hbx.cell (p := ⟨bk, ok + u * 2 + 1, none⟩) hbk).trans (by rw [Nat.add_assoc]; exact hcs _ _ (jv_at1 hul))
            have hzt := hkz (keys[u]'hul) (List.getElem_mem _)
            have HS := Lib.hid (show keys.take (u + 1) = keys.take u ++ [keys[u]'hul] by rw [List.take_add_one, List.getElem?_eq_getElem hul]; rfl)
            generalize keys[u]'hul = kk at *
            rw [hAk] at q7
            have j0 : (0 : Int) ≤ (u : Int) := by omega
            have j1 : (u : Int) < (nk : Int) := by omega
            have j2 : (u : Int) < 9 := by omega
            have HW1 := Lib.hid hzt.1
            have HW2 := Lib.hid hzt.2
            have hsz3 : w.heap.size < wr.heap.size := Nat.lt_of_lt_of_le hlt12 hbx.size
            have hbk3 : bk < wr.heap.size := Nat.lt_of_lt_of_le hbk hbx.size
            clear hcs hAk hzt hjl hz2
            go_wp2_with fail
            have f1 : ∀ p, (Batch.grew wr p).cell? ⟨w.heap.size, 23, none⟩ = some (.slice (some ⟨bk, ok, none⟩) nk cK) := fun p => (Batch.grew_cell hsz3 p).trans q7
            have f2 : ∀ p, (Batch.grew wr p).cell? ⟨bk, ok + u * 2, none⟩ = some (.string (str kk.kid)) := fun p => (Batch.grew_cell hbk3 p).trans qe0
            have f3 : ∀ p, (Batch.grew wr p).cell? ⟨bk, ok + u * 2 + 1, none⟩ = some (.string (str kk.x)) := fun p => (Batch.grew_cell hbk3 p).trans qe1
            refine Batch.wp_region_segs [([0, 1, 2, 3, 4, 5, 6], 7), ([8, 9, 10, 11, 12, 13, 14], 15)] [16] [(17, fun v w' => ∃ g, wr.heap.size ≤ g ∧ v = .pointer (some ⟨g, 0, none⟩) ∧ Blk w' g [.string ⟨#[]⟩, .string ⟨#[]⟩] 54)] [18] (by kernel_rfl) (by kernel_rfl) (by
              intro x hx
              simp only [List.mem_cons, List.not_mem_nil, or_false] at hx
              subst hx
              exact Batch.stable_gr fun v w w' hb ⟨g, e0, e, h⟩ => ⟨g, e0, e, h.below hb⟩) ?_
            simp only [Batch.segs, Batch.pick, List.getD_cons_zero, List.getD_cons_succ]
            repeat (go_big_quiet_step (fail))
            refine wpQuiet_nil (Batch.segs_call rfl (fun K0 hK0 => ?_))
            go_simp
            refine ⟨_, fun p => Batch.calls_grew1 (few_q kk.kid HW1.out _), hK0 _ ?_⟩
            clear hK0 K0
            repeat (go_big_quiet_step (fail))
            refine wpQuiet_nil (Batch.segs_call rfl (fun K0 hK0 => ?_))
            go_simp
            refine ⟨_, fun p => Batch.calls_grew1 (few_q kk.x HW2.out _), hK0 _ ?_⟩
            clear hK0 K0
            repeat (go_big_quiet_step (fail))
            refine wpQuiet_nil ?_
            refine ⟨_, rfl, rfl, ?_, ?_⟩
            · intro w1 hw1
              have hwz := hw1.below.size
              go_simp
              exact ⟨Batch.GR.of ((Below.refl _ _).alloc (Nat.le_refl _) _), w1.heap.size, hwz, rfl, Blk.new w1 [.string ⟨#[]⟩, .string ⟨#[]⟩] _⟩
            · rintro v w6 hw6 ⟨_, gx, hgx, rfl, hBx⟩
              have hb6 := hw6.below
              have hb3 : Below W12.heap.size W12 w6 := hbx.trans (hb6.mono hbx.size)
              have hown3 := below_own2 hown2 hb6
              have hgo : (Value.slice A2 u c2).ownBlock ≠ some gx := fun e => by have := (hown2.lt gx e).2; omega
              have hgW : W12.heap.size ≤ gx := Nat.le_trans hbx.size hgx
              generalize hfk : Led.few kk.kid = fk at *
              generalize hfx : Led.few kk.x = fx at *
              have HFK := Lib.hid hfk
              have HFX := Lib.hid hfx
              clear hfk hfx
              have x0 : w6.cell? ⟨gx, 0, none⟩ = some (.string ⟨#[]⟩) := hBx.cell 0
              have x1 : w6.cell? ⟨gx, 1, none⟩ = some (.string ⟨#[]⟩) := hBx.cell 1
              have y0 : w6.frozen? ⟨gx, 0, none⟩ = false := hBx.froz 0
              have y1 : w6.frozen? ⟨gx, 1, none⟩ = false := hBx.froz 1
              have xl := hBx.lt
              clear f1 f2 f3 q7 qe0 qe1 hw6 hb6 hown2 hbx hgx
              go_upto_region 23 with fail
              have B7 : Blk ((w6.setCell ⟨gx, 0, none⟩ (.string (str fk))).setCell ⟨gx, 1, none⟩ (.string (str fx))) gx [.string (str fk), .string (str fx)] 54 := (hBx.set 0 (.string (str fk))).set 1 (.string (str fx))
              have hb7 := (hb3.setCell (p := ⟨gx, 0, none⟩) hgW (.string (str fk))).setCell (p := ⟨gx, 1, none⟩) hgW (.string (str fx))
              have hown7 := own_set (own_set hown3 (p := ⟨gx, 0, none⟩) (.string (str fk)) hgo) (p := ⟨gx, 1, none⟩) (.string (str fx)) hgo
              generalize (w6.setCell ⟨gx, 0, none⟩ (.string (str fk))).setCell ⟨gx, 1, none⟩ (.string (str fx)) = w7 at *
              clear x0 x1 y0 y1 xl hBx hb3 hown3
              have x0 : w7.cell? ⟨gx, 0, none⟩ = some (.string (str fk)) := B7.cell 0
              have x1 : w7.cell? ⟨gx, 1, none⟩ = some (.string (str fx)) := B7.cell 1
              have y0 : w7.frozen? ⟨gx, 0, none⟩ = false := B7.froz 0
              have xl := B7.lt
              have h63 : u + 1 ≤ maxLen := by unfold maxLen; omega
              have hB1 : W12.heap.size ≤ w7.heap.size := hb7.size
              by_cases hke : fk = []
              · subst hke
                have hs0 : str [] = ⟨#[]⟩ := rfl
                rw [hs0] at x0
                obtain ⟨wc, cc, hcv, hbs, hbc⟩ := conv_txt fx w7
                have hfl : fx.length ≤ 1000000 := by have := Led.few_len kk.x; rw [HFX.out] at this; omega
                have hnm := Lib.hid (rname_any (some ⟨w7.heap.size, 0, none⟩) fx.length cc fx wc hbs hfl)
                rw [hs0]
                go_wp2_with fail
                refine hnm.out.mono ?_
                rintro e wn ⟨rfl, hbn⟩
                have hb79 := hbc.trans (hbn.mono hbc.size)
                have B9 := B7.below hb79
                have hb9 := hb7.trans (hb79.mono hb7.size)
                have hown9' := below_own2 hown7 hb79
                have HNM := Lib.hid (rfl : Sha.nameOf fx = Sha.nameOf fx)
                generalize hgn : Sha.nameOf fx = fn at *
                have HGN := Lib.hid hgn
                clear hgn HNM hcv hbs hbc hbn hb79 hown7 hb7 B7 x0 x1 y0 xl hB1 hnm
                have x0 : wn.cell? ⟨gx, 0, none⟩ = some (.string (str [])) := B9.cell 0
                have y0 : wn.frozen? ⟨gx, 0, none⟩ = false := B9.froz 0
                have xl := B9.lt
                go_upto_region 25 with fail
                have B10 : Blk (wn.setCell ⟨gx, 0, none⟩ (.string (str fn))) gx [.string (str fn), .string (str fx)] 54 := B9.set 0 (.string (str fn))
                have hb10 := hb9.setCell (p := ⟨gx, 0, none⟩) hgW (.string (str fn))
                have hownX := own_set hown9' (p := ⟨gx, 0, none⟩) (.string (str fn)) hgo
                generalize wn.setCell ⟨gx, 0, none⟩ (.string (str fn)) = wy at *
                clear x0 y0 xl B9 hb9 hown9'
                have x0 : wy.cell? ⟨gx, 0, none⟩ = some (.string (str fn)) := B10.cell 0
                have x1 : wy.cell? ⟨gx, 1, none⟩ = some (.string (str fx)) := B10.cell 1
                have hB1 : W12.heap.size ≤ wy.heap.size := hb10.size
                have hrd : Vs (wy.alloc (.cells #[.string (str fn), .string (str fx)] 54)) (wy.alloc (.cells #[.string (str fn), .string (str fx)] 54)).heap.size 2 (some ⟨wy.heap.size, 0, none⟩) 1 [.string (str fn), .string (str fx)] :=
                  ⟨rfl, fun j q hj => ⟨_, rfl, by simp, by rw [zero_add_]; exact ((Blk.new wy [.string (str fn), .string (str fx)] 54).cell j).trans hj⟩⟩
                go_wp2_with (at_builtin; go_must (refine wpList_append (wy.alloc (.cells #[.string (str fn), .string (str fx)] 54)) rfl (.tmp 134) (.tmp 136) 43 rfl W12.heap.size 54 iJ (.agg #[.string ⟨#[]⟩, .string ⟨#[]⟩]) 2 32 Tryz.underlying43 hiJ hj0 hj1 hj2 rfl (by omega) _ _ _ rfl (hownX.alloc _) _ _ 1 _ _ rfl hrd (by intro v hv; simp at hv; rcases hv with rfl | rfl <;> rfl) h63 (by omega) (by simp; omega) ?_))
                intro A' c' w8 hown' g1' g2' hgr
                have hb8 : Below W12.heap.size W12 w8 := below_grown (hb10.alloc hB1 _) hgr (by simp; omega) (hownX.alloc _)
                have HKT := Lib.hid (show KeysTo (fun x r => r = Sha.nameOf x) (keys.take (u + 1)) (KK ++ [⟨fn, fx⟩]) by
                  rw [HS.out]
                  exact HKK.out.snoc ⟨HFX.out.symm, by rw [HFK.out, if_pos rfl]; show _ = _; rw [HFX.out]; exact HGN.out.symm⟩)
                have hown9 : w8.ownsRow W12.heap.size 54 2 (.slice A' (u + 1) c') (u + 1) (jv (KK ++ [⟨fn, fx⟩])) := by rw [jv_snoc]; exact hown'
                clear hownX hgr hb10 hown' hrd
                go_wp2
                go_roundw
                case rel => exact ⟨u + 1, A', c', KK ++ [⟨fn, fx⟩], by omega, by go_num, rfl, g1', hb8, hown9, HKT.out⟩
                case measure => simp [intOf]; omega
              · have e1 : decide (str fk = ⟨#[]⟩) = false := by simp [str]; exact hke
                have e2 : (str fk).toList.isEmpty = false := by rw [str_bytes]; simpa using hke
                have e3 : fk.isEmpty = false := by simpa using hke
                have e4 : (fk == []) = false := by simpa using hke
                have hrd : Vs (w7.alloc (.cells #[.string (str fk), .string (str fx)] 54)) (w7.alloc (.cells #[.string (str fk), .string (str fx)] 54)).heap.size 2 (some ⟨w7.heap.size, 0, none⟩) 1 [.string (str fk), .string (str fx)] :=
                  ⟨rfl, fun j q hj => ⟨_, rfl, by simp, by rw [zero_add_]; exact ((Blk.new w7 [.string (str fk), .string (str fx)] 54).cell j).trans hj⟩⟩
                go_wp2_with (at_builtin; go_must (refine wpList_append (w7.alloc (.cells #[.string (str fk), .string (str fx)] 54)) rfl (.tmp 134) (.tmp 136) 43 rfl W12.heap.size 54 iJ (.agg #[.string ⟨#[]⟩, .string ⟨#[]⟩]) 2 32 Tryz.underlying43 hiJ hj0 hj1 hj2 rfl (by omega) _ _ _ rfl (hown7.alloc _) _ _ 1 _ _ rfl hrd (by intro v hv; simp at hv; rcases hv with rfl | rfl <;> rfl) h63 (by omega) (by simp; omega) ?_))
                intro A' c' w8 hown' g1' g2' hgr
                have hb8 : Below W12.heap.size W12 w8 := below_grown (hb7.alloc hB1 _) hgr (by simp; omega) (hown7.alloc _)
                have HKT := Lib.hid (show KeysTo (fun x r => r = Sha.nameOf x) (keys.take (u + 1)) (KK ++ [⟨fk, fx⟩]) by
                  rw [HS.out]
                  exact HKK.out.snoc ⟨HFX.out.symm, by rw [HFK.out, if_neg hke]⟩)
                have hown9 : w8.ownsRow W12.heap.size 54 2 (.slice A' (u + 1) c') (u + 1) (jv (KK ++ [⟨fk, fx⟩])) := by rw [jv_snoc]; exact hown'
                clear hown7 hgr hb7 hown' hrd
                go_wp2
                go_roundw
                case rel => exact ⟨u + 1, A', c', KK ++ [⟨fk, fx⟩], by omega, by go_num, rfl, g1', hb8, hown9, HKT.out⟩
                case measure => simp [intOf]; omega
          · have hue : u = m2 := by omega
            subst hue
            have hdd : (u < nk ∧ 9 ≤ u) ∨ nk ≤ u := by
              rcases Nat.lt_or_ge u nk with hd | hd
              · exact .inl ⟨hd, by have := HM2.out hd; omega⟩
              · exact .inr hd
            have BX : Blk (wr.setCell ⟨w.heap.size, 23, none⟩ (.slice A2 u c2)) w.heap.size (oc kind n (Led.few name) en (Led.few path) (Led.few parent) ttl (.slice A1 t c1) (Led.few jtext) (Led.few jname) jexp used (Led.few nname) (Led.few nkey) nexp nseq (Led.few ndoc) (Led.few kid) (Led.few seed) state since (Led.few dom) num (.slice A2 u c2)) 47 := (B.below hbx).set 23 (.slice A2 u c2)
            have BRX := (BR.below hbx).set_ne (p := ⟨w.heap.size, 23, none⟩) (by simp) (.slice A2 u c2)
            have hcX := (hc.and_below hbx).setCell (p := ⟨w.heap.size, 23, none⟩) (.inl (by simp)) (.slice A2 u c2)
            have q7f : wr.frozen? ⟨w.heap.size, 23, none⟩ = false := (B.below hbx).froz 23
            have ql : w.heap.size < wr.heap.size := (B.below hbx).lt
            have own1 := ownsRow_setCell_below (below_own2 hown hbx) (a := ⟨w.heap.size, 23, none⟩) (by exact hltW) (.slice A2 u c2)
            have own2 := ownsRow_setCell_below hown2 (a := ⟨w.heap.size, 23, none⟩) (by exact hlt12) (.slice A2 u c2)
            have HU := Lib.hid (show min nk 9 = u from HMM2.out)
            clear hown hown2 hbx hum hu hmn2 hm9
            rcases hdd with ⟨hd, hd6⟩ | hd
            all_goals
              go_upto_region 27 with fail
              generalize wr.setCell ⟨w.heap.size, 23, none⟩ (.slice A2 u c2) = w13 at *
              clear q7 q7f ql
              obtain ⟨s1, s2⟩ := store_op BRX rfl (vs := oc kind n (Led.few name) en (Led.few path) (Led.few parent) ttl (.slice A1 t c1) (Led.few jtext) (Led.few jname) jexp used (Led.few nname) (Led.few nkey) nexp nseq (Led.few ndoc) (Led.few kid) (Led.few seed) state since (Led.few dom) num (.slice A2 u c2)) rfl (oc_one _ _ _ _ _ _ _ _ _ _ _ _ _ _ _ _ _ _ _ _ _ _ _ _ _ _ _ _)
              have hld := load_op BX rfl
              have own1' := own_setCells2 (oc kind n (Led.few name) en (Led.few path) (Led.few parent) ttl (.slice A1 t c1) (Led.few jtext) (Led.few jname) jexp used (Led.few nname) (Led.few nkey) nexp nseq (Led.few ndoc) (Led.few kid) (Led.few seed) state since (Led.few dom) num (.slice A2 u c2)) own1 (g := w.heap.size + 1) (k := 0) (by omega)
              have own2' := own_setCells2 (oc kind n (Led.few name) en (Led.few path) (Led.few parent) ttl (.slice A1 t c1) (Led.few jtext) (Led.few jname) jexp used (Led.few nname) (Led.few nkey) nexp nseq (Led.few ndoc) (Led.few kid) (Led.few seed) state since (Led.few dom) num (.slice A2 u c2)) own2 (g := w.heap.size + 1) (k := 0) (by omega)
              have hcF := (hcX.mono (S' := [w.heap.size, w.heap.size + 1]) (by simp)).setCells (oc kind n (Led.few name) en (Led.few path) (Led.few parent) ttl (.slice A1 t c1) (Led.few jtext) (Led.few jname) jexp used (Led.few nname) (Led.few nkey) nexp nseq (Led.few ndoc) (Led.few kid) (Led.few seed) state since (Led.few dom) num (.slice A2 u c2)) (b := w.heap.size + 1) (o := 0) (.inl (by simp))
              generalize w13.setCells (w.heap.size + 1) 0 (oc kind n (Led.few name) en (Led.few path) (Led.few parent) ttl (.slice A1 t c1) (Led.few jtext) (Led.few jname) jexp used (Led.few nname) (Led.few nkey) nexp nseq (Led.few ndoc) (Led.few kid) (Led.few seed) state since (Led.few dom) num (.slice A2 u c2)) = wf at *
              have hbF : Below w.heap.size w wf := hbW.trans (hcF.below' hbW.size (by simp))
              have hT1 : wf.ownsRow w.heap.size 9 1 (.slice A1 t c1) t (tv ((sels.take 6).map Led.few)) := by
                have h1 := own_base (b' := w.heap.size) own1' (by omega)
                have e : sels.take 6 = sels.take t := by
                  have hl := HSL.out
                  have ht' := HMT.out
                  rcases Nat.le_total ns 6 with h | h
                  · rw [List.take_of_length_le (by omega), List.take_of_length_le (by omega)]
                  · rw [show t = 6 by omega]
                rw [e]
                exact h1
              have hV2 := own_base (b' := w.heap.size) own2' (by omega)
              have hKT : KeysTo (fun x r => r = Sha.nameOf x) (keys.take 9) KK := by
                have hl := HKL.out
                have hu' := HU.out
                have e : keys.take 9 = keys.take u := by
                  rcases Nat.le_total nk 9 with h | h
                  · rw [List.take_of_length_le (by omega), List.take_of_length_le (by omega)]
                  · rw [show u = 9 by omega]
                rw [e]
                exact HKK.out
              have hH := s2.has (n := 24) rfl
              have hA := s2.arr (n := 24) rfl
              have HRES := Lib.hid (And.intro hT1 (And.intro hV2 (And.intro hKT hbF)))
              clear hT1 hV2 hKT own1' own2' hcF
              unfold oc at s1 hld
              simp only [List.toArray] at s1 hld
              go_wp2
              refine bodyPost_ret (results_arr (P := Tryz.prog) Tryz.results13 _ _ (w.heap.size + 1) 0 24 _ rfl Tryz.underlying47 rfl size_op hH) rfl ?_
              rw [← HMT.out, HU.out]
              exact ⟨A1, c1, A2, c2, KK, by rw [hA]; rfl, htc', huc, HRES.out.1, HRES.out.2.1, HRES.out.2.2.1, HRES.out.2.2.2⟩
end Go.Proofs.YtmbpnkacggngkaaGreatDoor
