/- LEDGER, plainly: what an operation is, its bytes, and how they are read. -/
import Derived.WalkKit
namespace Go.Proofs.YtmbpnkacggngkaaGreatDoor
namespace Led

abbrev Txt := List UInt8
structure Entry where
  n : Int
  path : Txt
  parent : Txt
  ttl : Int
  sels : List Txt
structure Join where
  text : Txt
  name : Txt
  expires : Int
  used : Bool
structure Node where
  name : Txt
  key : Txt
  expires : Int
  seq : Int
  doc : Txt
structure Key where
  kid : Txt
  seed : Txt
  state : Int
  since : Int
structure Jwk where
  kid : Txt
  x : Txt
structure Bundle where
  domain : Txt
  number : Int
  keys : List Jwk
structure Op where
  kind : Int
  n : Int
  name : Txt
  entry : Entry
  join : Join
  node : Node
  key : Key
  bundle : Bundle

/-- The k lowest bytes of a number, the lowest first. -/
def le : Nat → Int → Txt
  | 0, _ => []
  | k + 1, x => UInt8.ofNat (x % 256).toNat :: le k (x / 256)
/-- The number of bytes, the lowest first. -/
def un : Txt → Nat
  | [] => 0
  | b :: t => b.toNat + 256 * un t
/-- As a number with a sign. -/
def sg (n : Nat) : Int := if n < 9223372036854775808 then (n : Int) else (n : Int) - 18446744073709551616
def I64 (x : Int) : Prop := -9223372036854775808 ≤ x ∧ x ≤ 9223372036854775807

theorem le_length : ∀ (k : Nat) (x : Int), (le k x).length = k
  | 0, _ => rfl
  | k + 1, x => by simp [le, le_length k]
theorem le_un : ∀ t : Txt, le t.length (un t : Nat) = t
  | [] => rfl
  | b :: t => by
    have ih := le_un t
    have hb := b.toNat_lt
    have e1 : ((un (b :: t) : Nat) : Int) % 256 = (b.toNat : Int) := by simp only [un]; omega
    have e2 : ((un (b :: t) : Nat) : Int) / 256 = (un t : Nat) := by simp only [un]; omega
    simp only [List.length_cons, le, e1, e2, ih]
    simp
theorem un_lt : ∀ t : Txt, un t < 256 ^ t.length
  | [] => by simp [un]
  | b :: t => by
    have ih := un_lt t
    have hb := b.toNat_lt
    simp only [un, List.length_cons, Nat.pow_succ]
    omega
theorem emod_two (x p : Int) : x % (256 * p) = x % 256 + 256 * (x / 256 % p) := by
  have e := Int.ediv_ediv_of_nonneg (x := x) (y := 256) (z := p) (by omega)
  have h1 := Int.emod_def x (256 * p)
  have h2 := Int.emod_def x 256
  have h3 := Int.emod_def (x / 256) p
  rw [← e, Int.mul_assoc] at h1
  generalize hq : p * (x / 256 / p) = z at *
  omega
theorem un_le : ∀ (k : Nat) (x : Int), ((un (le k x) : Nat) : Int) = x % (256 ^ k : Nat)
  | 0, x => by simp [un, le]
  | k + 1, x => by
    have ih := un_le k (x / 256)
    have h1 : 0 ≤ x % 256 := Int.emod_nonneg _ (by omega)
    have h2 : x % 256 < 256 := Int.emod_lt_of_pos _ (by omega)
    have hb : (UInt8.ofNat (x % 256).toNat).toNat = (x % 256).toNat := by
      rw [UInt8.toNat_ofNat_of_lt' (show (x % 256).toNat < 256 by omega)]
    have hp : (256 : Nat) ^ (k + 1) = 256 * 256 ^ k := by rw [Nat.pow_succ, Nat.mul_comm]
    rw [hp]
    generalize (256 : Nat) ^ k = p at *
    have h3 := emod_two x p
    have h4 : ((256 * p : Nat) : Int) = 256 * (p : Int) := by omega
    rw [h4, h3, ← ih]
    simp only [un, le, hb]
    omega
theorem le_shift : ∀ (k : Nat) (x q : Int), le k (x + (256 ^ k : Nat) * q) = le k x
  | 0, _, _ => rfl
  | k + 1, x, q => by
    have ih := le_shift k (x / 256) q
    have hp : (256 : Nat) ^ (k + 1) = 256 * 256 ^ k := by rw [Nat.pow_succ, Nat.mul_comm]
    rw [hp]
    generalize (256 : Nat) ^ k = p at *
    have h4 : ((256 * p : Nat) : Int) * q = 256 * ((p : Int) * q) := by
      have : ((256 * p : Nat) : Int) = 256 * (p : Int) := by omega
      rw [this, Int.mul_assoc]
    rw [h4]
    generalize (p : Int) * q = z at *
    have e1 : (x + 256 * z) % 256 = x % 256 := by omega
    have e2 : (x + 256 * z) / 256 = x / 256 + z := by omega
    simp only [le, e1, e2, ih]
theorem le_sg {t : Txt} (h : t.length = 8) : le 8 (sg (un t)) = t := by
  unfold sg
  split
  · have := le_un t
    rw [h] at this
    exact this
  · have := le_un t
    rw [h] at this
    have e := le_shift 8 ((un t : Nat) : Int) (-1)
    rw [this] at e
    have hp : ((256 ^ 8 : Nat) : Int) * (-1) = -18446744073709551616 := by decide
    rw [hp] at e
    exact e
theorem sg_small {n : Nat} (h : n < 9223372036854775808) : sg n = n := by simp [sg, h]
theorem le_sg_small {t : Txt} {k : Nat} (h : t.length = k) (hk : k ≤ 7) : le k (sg (un t)) = t := by
  have h1 := un_lt t
  have h2 : (256 : Nat) ^ t.length ≤ 256 ^ 7 := Nat.pow_le_pow_right (by omega) (by omega)
  rw [sg_small (by omega), ← h]
  exact le_un t
theorem sg_un_le8 {x : Int} (h : I64 x) : sg (un (le 8 x)) = x := by
  have e := un_le 8 x
  unfold I64 at h
  have hp : ((256 ^ 8 : Nat) : Int) = 18446744073709551616 := by decide
  rw [hp] at e
  unfold sg
  split <;> omega
theorem sg_un_le {x : Int} {k : Nat} (hk : k ≤ 7) (h0 : 0 ≤ x) (h : x < (256 ^ k : Nat)) : sg (un (le k x)) = x := by
  have e := un_le k x
  have h1 := un_lt (le k x)
  rw [le_length] at h1
  have h2 : (256 : Nat) ^ k ≤ 256 ^ 7 := Nat.pow_le_pow_right (by omega) (by omega)
  rw [sg_small (by omega), e, Int.emod_eq_of_lt h0 h]
theorem sg_i64 {t : Txt} (h : t.length ≤ 8) : I64 (sg (un t)) := by
  have h1 := un_lt t
  have h2 : (256 : Nat) ^ t.length ≤ 256 ^ 8 := Nat.pow_le_pow_right (by omega) h
  unfold sg I64
  split <;> omega

def etext (s : Txt) : Txt := le 2 ((s.length % 65536 : Nat) : Int) ++ s.take (s.length % 65536)
def ekey (k : Jwk) : Txt := etext k.kid ++ etext k.x
def emany {α : Type} (f : α → Txt) (L : List α) : Txt := le 1 ((L.length % 256 : Nat) : Int) ++ ((L.take (L.length % 256)).map f).flatten
def b01 (b : Bool) : Int := if b then 1 else 0
/-- An operation's bytes. -/
def enc (o : Op) : Txt :=
  le 1 (o.kind % 256) ++ (le 8 o.n ++ (etext o.name ++ (le 8 o.entry.n ++ (etext o.entry.path ++ (etext o.entry.parent ++ (le 8 o.entry.ttl ++
  (emany etext o.entry.sels ++ (etext o.join.text ++ (etext o.join.name ++ (le 8 o.join.expires ++ (le 8 (b01 o.join.used) ++
  (etext o.node.name ++ (etext o.node.key ++ (le 8 o.node.expires ++ (le 8 o.node.seq ++ (etext o.node.doc ++
  (etext o.key.kid ++ (etext o.key.seed ++ (le 8 o.key.state ++ (le 8 o.key.since ++ (etext o.bundle.domain ++ (le 8 o.bundle.number ++ emany ekey o.bundle.keys))))))))))))))))))))))

/-- The bytes that are still to be read, and whether there were too few. -/
abbrev St := Txt × Bool
def rnum (k : Nat) (s : St) : Int × St := (sg (un (s.1.take k)), if k ≤ s.1.length then (s.1.drop k, s.2) else ([], true))
def rtext (s : St) : Txt × St :=
  if (rnum 2 s).2.1.length < (rnum 2 s).1.toNat then ([], ([], true)) else ((rnum 2 s).2.1.take (rnum 2 s).1.toNat, ((rnum 2 s).2.1.drop (rnum 2 s).1.toNat, (rnum 2 s).2.2))
def rkey (s : St) : Jwk × St := (⟨(rtext s).1, (rtext (rtext s).2).1⟩, (rtext (rtext s).2).2)
def reach {α : Type} (f : St → α × St) : Nat → St → List α × St
  | 0, s => ([], s)
  | n + 1, s => ((f s).1 :: (reach f n (f s).2).1, (reach f n (f s).2).2)
def rmany {α : Type} (f : St → α × St) (s : St) : List α × St := reach f (rnum 1 s).1.toNat (rnum 1 s).2
def late (u : Int) (s : St) : St := (s.1, s.2 || decide (u > 1) || decide (u < 0))
/-- The operation of bytes. -/
def rop (s : St) : Op × St :=
  let a1 := rnum 1 s
  let a2 := rnum 8 a1.2
  let a3 := rtext a2.2
  let a4 := rnum 8 a3.2
  let a5 := rtext a4.2
  let a6 := rtext a5.2
  let a7 := rnum 8 a6.2
  let a8 := rmany rtext a7.2
  let a9 := rtext a8.2
  let a10 := rtext a9.2
  let a11 := rnum 8 a10.2
  let a12 := rnum 8 a11.2
  let a13 := rtext (late a12.1 a12.2)
  let a14 := rtext a13.2
  let a15 := rnum 8 a14.2
  let a16 := rnum 8 a15.2
  let a17 := rtext a16.2
  let a18 := rtext a17.2
  let a19 := rtext a18.2
  let a20 := rnum 8 a19.2
  let a21 := rnum 8 a20.2
  let a22 := rtext a21.2
  let a23 := rnum 8 a22.2
  let a24 := rmany rkey a23.2
  (⟨a1.1, a2.1, a3.1, ⟨a4.1, a5.1, a6.1, a7.1, a8.1⟩, ⟨a9.1, a10.1, a11.1, a12.1 == 1⟩, ⟨a13.1, a14.1, a15.1, a16.1, a17.1⟩, ⟨a18.1, a19.1, a20.1, a21.1⟩, ⟨a22.1, a23.1, a24.1⟩⟩, a24.2)

/-- If reading did not fail, these bytes were read. -/
def Got (e : Txt) (s s' : St) : Prop := s'.2 = false → s.2 = false ∧ s.1 = e ++ s'.1
theorem Got.refl (s : St) : Got [] s s := fun h => ⟨h, rfl⟩
theorem Got.cons {e f : Txt} {s t u : St} (h : Got e s t) (k : Got f t u) : Got (e ++ f) s u := fun hu => by
  obtain ⟨h1, h2⟩ := k hu
  obtain ⟨h3, h4⟩ := h h1
  exact ⟨h3, by rw [h4, h2, List.append_assoc]⟩
theorem got_num {k : Nat} (s : St) (hk : k ≤ 8) : Got (le k (rnum k s).1) s (rnum k s).2 := by
  unfold rnum
  intro h
  by_cases hl : k ≤ s.1.length
  · rw [if_pos hl] at h ⊢
    refine ⟨h, ?_⟩
    have hlen : (s.1.take k).length = k := by simp; omega
    have e : le k (sg (un (s.1.take k))) = s.1.take k := by
      by_cases h8 : k = 8
      · subst h8; exact le_sg hlen
      · exact le_sg_small hlen (by omega)
    show s.1 = le k (sg (un (s.1.take k))) ++ s.1.drop k
    rw [e, List.take_append_drop]
  · rw [if_neg hl] at h
    cases h
theorem rnum_range {k : Nat} (s : St) (hk : k ≤ 8) : I64 (rnum k s).1 := sg_i64 (by simp; omega)
theorem rnum_small {k : Nat} (s : St) (hk : k ≤ 7) : 0 ≤ (rnum k s).1 ∧ (rnum k s).1 < (256 ^ k : Nat) := by
  have h1 := un_lt (s.1.take k)
  have hl : (s.1.take k).length ≤ k := by simp; omega
  have h2 : (256 : Nat) ^ (s.1.take k).length ≤ 256 ^ k := Nat.pow_le_pow_right (by omega) hl
  have h3 : (256 : Nat) ^ k ≤ 256 ^ 7 := Nat.pow_le_pow_right (by omega) hk
  unfold rnum
  simp only []
  rw [sg_small (by omega)]
  omega
theorem got_text (s : St) : Got (etext (rtext s).1) s (rtext s).2 := by
  have h1 := got_num (k := 2) s (by omega)
  have h2 := rnum_small (k := 2) s (by omega)
  unfold rtext
  generalize rnum 2 s = a at *
  obtain ⟨n, l, sh⟩ := a
  simp only [] at *
  by_cases h : l.length < n.toNat
  · rw [if_pos h]
    intro hh
    cases hh
  · rw [if_neg h]
    intro hh
    obtain ⟨h3, h4⟩ := h1 hh
    refine ⟨h3, ?_⟩
    have hlen : (l.take n.toNat).length = n.toNat := by simp; omega
    have hm : n.toNat % 65536 = n.toNat := by omega
    have hn : ((n.toNat : Nat) : Int) = n := by omega
    simp only [etext, hlen, hm, hn]
    rw [List.take_of_length_le (by omega), List.append_assoc, List.take_append_drop]
    exact h4
theorem got_key (s : St) : Got (ekey (rkey s).1) s (rkey s).2 := (got_text s).cons (got_text _)
theorem reach_length {α : Type} (f : St → α × St) : ∀ (n : Nat) (s : St), (reach f n s).1.length = n
  | 0, _ => rfl
  | n + 1, s => by simp [reach, reach_length f n]
theorem got_reach {α : Type} {f : St → α × St} {e : α → Txt} (h : ∀ s, Got (e (f s).1) s (f s).2) : ∀ (n : Nat) (s : St), Got ((reach f n s).1.map e).flatten s (reach f n s).2
  | 0, s => Got.refl s
  | n + 1, s => by
    simp only [reach, List.map_cons, List.flatten_cons]
    exact (h s).cons (got_reach h n _)
theorem got_many {α : Type} {f : St → α × St} {e : α → Txt} (h : ∀ s, Got (e (f s).1) s (f s).2) (s : St) : Got (emany e (rmany f s).1) s (rmany f s).2 := by
  have h2 := rnum_small (k := 1) s (by omega)
  have hn : (((rnum 1 s).1.toNat : Nat) : Int) = (rnum 1 s).1 := by omega
  have hm : (rnum 1 s).1.toNat % 256 = (rnum 1 s).1.toNat := by omega
  unfold rmany emany
  rw [reach_length, hm, hn, List.take_of_length_le (by rw [reach_length]; omega)]
  exact (got_num s (by omega)).cons (got_reach h _ _)
theorem got_used (s : St) : Got (le 8 (b01 ((rnum 8 s).1 == 1))) s (late (rnum 8 s).1 (rnum 8 s).2) := by
  have h1 := got_num (k := 8) s (by omega)
  intro h
  simp only [late, Bool.or_eq_false_iff, decide_eq_false_iff_not] at h
  obtain ⟨⟨h2, h3⟩, h4⟩ := h
  obtain ⟨h5, h6⟩ := h1 h2
  refine ⟨h5, ?_⟩
  have e : b01 ((rnum 8 s).1 == 1) = (rnum 8 s).1 := by
    generalize (rnum 8 s).1 = u at *
    unfold b01
    by_cases hu : u = 1
    · simp [hu]
    · simp [hu]; omega
  rw [e]
  exact h6
theorem got_op (s : St) : Got (enc (rop s).1) s (rop s).2 := by
  have hk := rnum_small (k := 1) s (by omega)
  have hk2 : (rnum 1 s).1 % 256 = (rnum 1 s).1 := by omega
  unfold enc rop
  simp only [hk2]
  refine (got_num _ (by omega)).cons ?_
  refine (got_num _ (by omega)).cons ?_
  refine (got_text _).cons ?_
  refine (got_num _ (by omega)).cons ?_
  refine (got_text _).cons ?_
  refine (got_text _).cons ?_
  refine (got_num _ (by omega)).cons ?_
  refine (got_many got_text _).cons ?_
  refine (got_text _).cons ?_
  refine (got_text _).cons ?_
  refine (got_num _ (by omega)).cons ?_
  refine (got_used _).cons ?_
  refine (got_text _).cons ?_
  refine (got_text _).cons ?_
  refine (got_num _ (by omega)).cons ?_
  refine (got_num _ (by omega)).cons ?_
  refine (got_text _).cons ?_
  refine (got_text _).cons ?_
  refine (got_text _).cons ?_
  refine (got_num _ (by omega)).cons ?_
  refine (got_num _ (by omega)).cons ?_
  refine (got_text _).cons ?_
  refine (got_num _ (by omega)).cons ?_
  exact got_many got_key _

/-- What was written is read. -/
theorem read_num {k : Nat} {x : Int} (hx : sg (un (le k x)) = x) (r : Txt) (b : Bool) : rnum k (le k x ++ r, b) = (x, (r, b)) := by
  have hl := le_length k x
  unfold rnum
  simp only []
  rw [List.take_left' hl, hx, List.length_append, hl, if_pos (by omega), List.drop_left' hl]
theorem read8 {x : Int} (hx : I64 x) (r : Txt) (b : Bool) : rnum 8 (le 8 x ++ r, b) = (x, (r, b)) := read_num (sg_un_le8 hx) r b
theorem read_text {t : Txt} (ht : t.length < 65536) (r : Txt) (b : Bool) : rtext (etext t ++ r, b) = (t, (r, b)) := by
  have hm : t.length % 65536 = t.length := by omega
  have e := read_num (k := 2) (x := (t.length : Int)) (sg_un_le (by omega) (by omega) (by omega)) (t ++ r) b
  unfold rtext etext
  rw [hm, List.take_length, List.append_assoc, e]
  simp only [Int.toNat_natCast, List.length_append]
  rw [if_neg (by omega), List.take_left' rfl, List.drop_left' rfl]
theorem read_key {k : Jwk} (h1 : k.kid.length < 65536) (h2 : k.x.length < 65536) (r : Txt) (b : Bool) : rkey (ekey k ++ r, b) = (k, (r, b)) := by
  unfold rkey ekey
  rw [List.append_assoc, read_text h1, read_text h2]
theorem read_reach {α : Type} {f : St → α × St} {e : α → Txt} {P : α → Prop} (h : ∀ x, P x → ∀ r b, f (e x ++ r, b) = (x, (r, b))) : ∀ (L : List α), (∀ x ∈ L, P x) → ∀ (r : Txt) (b : Bool), reach f L.length ((L.map e).flatten ++ r, b) = (L, (r, b))
  | [], _, r, b => rfl
  | x :: L, hL, r, b => by
    have ih := read_reach h L (fun y hy => hL y (List.mem_cons_of_mem _ hy)) r b
    simp only [List.map_cons, List.flatten_cons, List.length_cons, reach, List.append_assoc]
    rw [h x (hL x List.mem_cons_self), ih]
theorem read_many {α : Type} {f : St → α × St} {e : α → Txt} {P : α → Prop} (h : ∀ x, P x → ∀ r b, f (e x ++ r, b) = (x, (r, b))) {L : List α} (hl : L.length < 256) (hL : ∀ x ∈ L, P x) (r : Txt) (b : Bool) : rmany f (emany e L ++ r, b) = (L, (r, b)) := by
  have hm : L.length % 256 = L.length := by omega
  have e1 := read_num (k := 1) (x := (L.length : Int)) (sg_un_le (by omega) (by omega) (by omega)) ((L.map e).flatten ++ r) b
  unfold rmany emany
  rw [hm, List.take_length, List.append_assoc, e1]
  simp only [Int.toNat_natCast]
  exact read_reach h L hL r b
/-- What an operation must be to be read as it was written. -/
structure Op.Fit (o : Op) : Prop where
  kind : 0 ≤ o.kind ∧ o.kind < 256
  n : I64 o.n
  name : o.name.length < 65536
  en : I64 o.entry.n
  epath : o.entry.path.length < 65536
  eparent : o.entry.parent.length < 65536
  ettl : I64 o.entry.ttl
  esels : o.entry.sels.length < 256
  esel : ∀ x ∈ o.entry.sels, x.length < 65536
  jtext : o.join.text.length < 65536
  jname : o.join.name.length < 65536
  jexp : I64 o.join.expires
  nname : o.node.name.length < 65536
  nkey : o.node.key.length < 65536
  nexp : I64 o.node.expires
  nseq : I64 o.node.seq
  ndoc : o.node.doc.length < 65536
  kkid : o.key.kid.length < 65536
  kseed : o.key.seed.length < 65536
  kstate : I64 o.key.state
  ksince : I64 o.key.since
  bdom : o.bundle.domain.length < 65536
  bnum : I64 o.bundle.number
  bkeys : o.bundle.keys.length < 256
  bkey : ∀ k ∈ o.bundle.keys, k.kid.length < 65536 ∧ k.x.length < 65536
theorem b01_i64 (b : Bool) : I64 (b01 b) := by cases b <;> simp [I64, b01]
theorem late_b01 (b : Bool) (s : St) : late (b01 b) s = s := by
  obtain ⟨l, sh⟩ := s
  cases b <;> simp [late, b01]
theorem b01_eq (b : Bool) : (b01 b == 1) = b := by cases b <;> rfl
theorem read_op {o : Op} (h : o.Fit) (b : Bool) : rop (enc o, b) = (o, ([], b)) := by
  have hk : o.kind % 256 = o.kind := by have := h.kind; omega
  have hl : enc o = enc o ++ [] := by simp
  rw [hl]
  unfold enc
  simp only [List.append_assoc, hk]
  unfold rop
  simp only [read_num (k := 1) (sg_un_le (x := o.kind) (by omega) h.kind.1 h.kind.2), read8 h.n, read_text h.name, read8 h.en, read_text h.epath, read_text h.eparent, read8 h.ettl,
    read_many (P := fun x : Txt => x.length < 65536) (fun x hx r b => read_text hx r b) h.esels h.esel, read_text h.jtext, read_text h.jname, read8 h.jexp, read8 (b01_i64 _), late_b01, b01_eq,
    read_text h.nname, read_text h.nkey, read8 h.nexp, read8 h.nseq, read_text h.ndoc, read_text h.kkid, read_text h.kseed, read8 h.kstate, read8 h.ksince, read_text h.bdom, read8 h.bnum,
    read_many (P := fun k : Jwk => k.kid.length < 65536 ∧ k.x.length < 65536) (fun x hx r b => read_key hx.1 hx.2 r b) h.bkeys h.bkey]
end Led
end Go.Proofs.YtmbpnkacggngkaaGreatDoor
