/- LEDGER, plainly: what a ledger is, and what an operation does to it. -/
import Derived.Test.YtmbpnkacggngkaaGreatDoorLedSpec
import Derived.Test.YtmbpnkacggngkaaGreatDoorIdsSetLaw
import Derived.Test.YtmbpnkacggngkaaGreatDoorShaSpec
namespace Go.Proofs.YtmbpnkacggngkaaGreatDoor
namespace Led

structure Ledger where
  entries : List Entry
  nodes : List Node
  bans : List Txt
  joins : List Join
  keys : List Key
  bundles : List Bundle
def none' : Ledger := ⟨[], [], [], [], [], []⟩

/-- How two texts stand to one another. -/
def ord (a b : Txt) : Int := if a < b then -1 else if b < a then 1 else 0
def cE (a b : Entry) : Int := a.n - b.n
def cN (a b : Node) : Int := ord a.name b.name
def cB (a b : Bundle) : Int := ord a.domain b.domain

/-- A comparison by which a list can rise. -/
structure Cmp {α : Type} (c : α → α → Int) : Prop where
  flip : ∀ a b, c a b < 0 ↔ 0 < c b a
  trans : ∀ a b d, c a b < 0 → c b d < 0 → c a d < 0
  left : ∀ a b d, c a b = 0 → (c a d < 0 ↔ c b d < 0)
theorem cE_cmp : Cmp cE := ⟨fun a b => by unfold cE; omega, fun a b d => by unfold cE; omega, fun a b d => by unfold cE; omega⟩
theorem ord_lt {a b : Txt} : ord a b < 0 ↔ a < b := by
  unfold ord
  split
  · simp_all
  · split <;> simp_all
theorem ord_gt {a b : Txt} : 0 < ord a b ↔ b < a := by
  unfold ord
  split
  · rename_i h
    constructor
    · intro h'; omega
    · intro h'; exact absurd (List.lt_trans h h') (List.lt_irrefl _)
  · split <;> simp_all
theorem ord_eq {a b : Txt} : ord a b = 0 ↔ a = b := by
  unfold ord
  split
  · rename_i h
    constructor
    · intro h'; omega
    · rintro rfl; exact absurd h (List.lt_irrefl _)
  · split
    · rename_i h
      constructor
      · intro h'; omega
      · rintro rfl; exact absurd h (List.lt_irrefl _)
    · rename_i h1 h2
      exact ⟨fun _ => List.le_antisymm (List.not_lt.1 h2) (List.not_lt.1 h1), fun _ => rfl⟩
theorem ord_cmp {α : Type} (f : α → Txt) : Cmp (fun a b => ord (f a) (f b)) := ⟨fun a b => by rw [ord_lt, ord_gt], fun a b d => by rw [ord_lt, ord_lt, ord_lt]; exact List.lt_trans, fun a b d h => by rw [ord_eq] at h; simp only [h]⟩
theorem cN_cmp : Cmp cN := ord_cmp Node.name
theorem cB_cmp : Cmp cB := ord_cmp Bundle.domain
theorem ord_cmp' : Cmp ord := ord_cmp id

/-- x in its place in a list that rises; in the place of one that is neither less nor greater. -/
def ins {α : Type} (c : α → α → Int) (x : α) (l : List α) : List α := l.filter (fun y => decide (c y x < 0)) ++ x :: l.filter (fun y => decide (0 < c y x))
def put {α : Type} (c : α → α → Int) (most : Nat) (x : α) (l : List α) : Option (List α) := if (ins c x l).length ≤ most then some (ins c x l) else none

def within (n a b : Int) : Bool := decide (a ≤ n ∧ n ≤ b)
def mayEntry (e : Entry) : Bool := (Ids.setOf e.sels).2 == 0 && (Ids.setOf e.sels).1.getD [] == e.sels && !e.sels.isEmpty && Ids.path e.path && !Ids.agent e.path && Ids.path e.parent && within e.n 1 1099511627776 && within e.ttl 1 1000
def mayJoin (j : Join) : Bool := j.text.all (fun c => Ids.small c || Ids.digit c) && Ids.agent j.name && within j.text.length 1 16 && within j.expires 0 1099511627776
def mayNode (n : Node) : Bool := Ids.agent n.name && n.key.length == 32 && within n.expires 0 1099511627776 && within n.seq 0 1099511627776 && decide (n.doc.length ≤ 16)
def mayKey (k : Key) : Bool := k.seed.length == 32 && within k.kid.length 1 16 && within k.state 1 3 && within k.since 0 1099511627776
def mayBundle (b : Bundle) : Bool := Ids.domain b.domain && within b.number 0 1099511627776 && decide (b.keys.length ≤ 8) && b.keys.all (fun k => k.x.length == 32 && k.kid == Sha.nameOf k.x) && decide (b.keys.map Jwk.kid).Nodup

def doEntry (L : Ledger) (e : Entry) : Ledger × Int :=
  if mayEntry e then match put cE 24 e L.entries with
    | some l => ({ L with entries := l }, 0)
    | none => (L, 6)
  else (L, 1)
def doGone (L : Ledger) (n : Int) : Ledger × Int := if L.entries.any (fun e => e.n == n) then ({ L with entries := L.entries.eraseP (fun e => e.n == n) }, 0) else (L, 7)
def doToken (L : Ledger) (j : Join) : Ledger × Int :=
  if !mayJoin j || j.used then (L, 1)
  else if L.joins.any (fun k => k.text == j.text) then (L, 8)
  else if 16 ≤ L.joins.length then (L, 6)
  else ({ L with joins := L.joins ++ [j] }, 0)
def doNode (L : Ledger) (n : Node) : Ledger × Int :=
  if mayNode n then
    if L.bans.contains n.name then (L, 21)
    else match put cN 4 n L.nodes with
      | some l => ({ L with nodes := l }, 0)
      | none => (L, 6)
  else (L, 1)
/-- The first of which p holds, otherwise. -/
def modP {α : Type} (p : α → Bool) (f : α → α) : List α → List α
  | [] => []
  | a :: l => if p a then f a :: l else a :: modP p f l
def doJoin (L : Ledger) (text : Txt) (n : Node) : Ledger × Int :=
  match L.joins.find? (fun j => j.text == text) with
  | none => (L, 7)
  | some j => if j.used then (L, 20) else if n.name == j.name then
      (if (doNode L n).2 == 0 then ({ (doNode L n).1 with joins := modP (fun j => j.text == text) (fun j => { j with used := true }) L.joins }, 0) else (L, (doNode L n).2))
    else (L, 1)
def doBan (L : Ledger) (s : Txt) : Ledger × Int :=
  if Ids.agent s then
    if L.bans.contains s then (L, 8)
    else match put ord 8 s L.bans with
      | some l => ({ L with bans := l, nodes := L.nodes.eraseP (fun n => n.name == s) }, 0)
      | none => (L, 6)
  else (L, 1)
def doLift (L : Ledger) (s : Txt) : Ledger × Int := if L.bans.any (fun t => t == s) then ({ L with bans := L.bans.eraseP (fun t => t == s) }, 0) else (L, 7)
def doEvict (L : Ledger) (s : Txt) : Ledger × Int := if L.nodes.any (fun n => n.name == s) then ({ L with nodes := L.nodes.eraseP (fun n => n.name == s) }, 0) else (L, 7)
def doPrepare (L : Ledger) (k : Key) : Ledger × Int :=
  if !mayKey k || !(k.state == 1) then (L, 1)
  else if L.keys.any (fun j => j.state == 1) || L.keys.any (fun j => j.kid == k.kid) then (L, 8)
  else if 8 ≤ L.keys.length then (L, 6)
  else ({ L with keys := L.keys ++ [k] }, 0)
def retire (n : Int) (L : List Key) : List Key := modP (fun j => j.state == 2) (fun j => { j with state := 3, since := n }) L
def doActive (L : Ledger) (n : Int) : Ledger × Int :=
  if within n 0 1099511627776 then
    if L.keys.any (fun j => j.state == 1) then ({ L with keys := modP (fun j => j.state == 1) (fun j => { j with state := 2, since := n }) (retire n L.keys) }, 0)
    else (L, 7)
  else (L, 1)
def doDrop (L : Ledger) (s : Txt) : Ledger × Int := if L.keys.any (fun j => j.kid == s && j.state == 3) then ({ L with keys := L.keys.eraseP (fun j => j.kid == s && j.state == 3) }, 0) else (L, 7)
def doBundle (L : Ledger) (b : Bundle) : Ledger × Int :=
  if mayBundle b then
    if L.bundles.any (fun o => o.domain == b.domain && decide (o.number > b.number)) then (L, 22)
    else match put cB 3 b L.bundles with
      | some l => ({ L with bundles := l }, 0)
      | none => (L, 6)
  else (L, 1)
def doUnbind (L : Ledger) (s : Txt) : Ledger × Int := if L.bundles.any (fun b => b.domain == s) then ({ L with bundles := L.bundles.eraseP (fun b => b.domain == s) }, 0) else (L, 7)
def doSeq (L : Ledger) (s : Txt) (n : Int) : Ledger × Int :=
  match L.nodes.find? (fun d => d.name == s) with
  | none => (L, 7)
  | some d => if n ≤ d.seq || n > 1099511627776 then (L, 22) else ({ L with nodes := modP (fun d => d.name == s) (fun d => { d with seq := n }) L.nodes }, 0)
/-- An operation (no raw one). -/
def does (L : Ledger) (o : Op) : Ledger × Int :=
  if o.kind = 1 then doEntry L o.entry
  else if o.kind = 2 then doGone L o.n
  else if o.kind = 3 then doToken L o.join
  else if o.kind = 4 then doJoin L o.name o.node
  else if o.kind = 5 then doNode L o.node
  else if o.kind = 6 then doBan L o.name
  else if o.kind = 7 then doLift L o.name
  else if o.kind = 8 then doEvict L o.name
  else if o.kind = 9 then doPrepare L o.key
  else if o.kind = 10 then doActive L o.n
  else if o.kind = 11 then doDrop L o.name
  else if o.kind = 12 then doBundle L o.bundle
  else if o.kind = 13 then doUnbind L o.name
  else if o.kind = 14 then doSeq L o.name o.n
  else (L, 1)

/-- A list that rises. -/
def Rises {α : Type} (c : α → α → Int) (l : List α) : Prop := l.Pairwise fun a b => c a b < 0
/-- What every ledger is that operations make. -/
structure Ledger.Wf (L : Ledger) : Prop where
  e1 : Rises cE L.entries
  e2 : ∀ e ∈ L.entries, mayEntry e = true
  e3 : L.entries.length ≤ 24
  n1 : Rises cN L.nodes
  n2 : ∀ n ∈ L.nodes, mayNode n = true
  n3 : L.nodes.length ≤ 4
  b1 : Rises ord L.bans
  b2 : ∀ s ∈ L.bans, Ids.agent s = true
  b3 : L.bans.length ≤ 8
  b4 : ∀ n ∈ L.nodes, n.name ∉ L.bans
  j1 : (L.joins.map Join.text).Nodup
  j2 : ∀ j ∈ L.joins, mayJoin j = true
  j3 : L.joins.length ≤ 16
  k1 : (L.keys.map Key.kid).Nodup
  k2 : ∀ k ∈ L.keys, mayKey k = true
  k3 : L.keys.length ≤ 8
  k4 : L.keys.countP (fun k => k.state == 1) ≤ 1
  k5 : L.keys.countP (fun k => k.state == 2) ≤ 1
  u1 : Rises cB L.bundles
  u2 : ∀ b ∈ L.bundles, mayBundle b = true
  u3 : L.bundles.length ≤ 3
theorem none_wf : none'.Wf := by
  constructor <;> simp [none', Rises]

section
variable {α : Type} {c : α → α → Int} {x : α} {l : List α}
theorem ins_mem {y : α} (h : y ∈ ins c x l) : y = x ∨ y ∈ l := by
  unfold ins at h
  simp only [List.mem_append, List.mem_cons, List.mem_filter] at h
  rcases h with h | h | h
  · exact .inr h.1
  · exact .inl h
  · exact .inr h.1
theorem ins_rises (hc : Cmp c) (h : Rises c l) : Rises c (ins c x l) := by
  unfold Rises ins at *
  rw [List.pairwise_append, List.pairwise_cons]
  refine ⟨h.filter _, ⟨?_, h.filter _⟩, ?_⟩
  · intro a ha
    simp only [List.mem_filter, decide_eq_true_eq] at ha
    exact (hc.flip _ _).2 ha.2
  · intro a ha b hb
    simp only [List.mem_filter, decide_eq_true_eq, List.mem_cons] at ha hb
    rcases hb with rfl | hb
    · exact ha.2
    · exact hc.trans _ _ _ ha.2 ((hc.flip _ _).2 hb.2)
theorem put_some {most : Nat} {m : List α} (h : put c most x l = some m) : m = ins c x l ∧ m.length ≤ most := by
  unfold put at h
  split at h
  · injection h with h; subst h; exact ⟨rfl, by assumption⟩
  · cases h
theorem modP_length {p : α → Bool} {f : α → α} : ∀ {l : List α}, (modP p f l).length = l.length
  | [] => rfl
  | a :: l => by
    unfold modP
    split
    · rfl
    · simp [modP_length (l := l)]
theorem modP_mem {p : α → Bool} {f : α → α} {y : α} : ∀ {l : List α}, y ∈ modP p f l → y ∈ l ∨ ∃ a ∈ l, p a = true ∧ y = f a
  | a :: l, h => by
    unfold modP at h
    split at h
    · rename_i hp
      rcases List.mem_cons.1 h with rfl | h
      · exact .inr ⟨a, List.mem_cons_self, hp, rfl⟩
      · exact .inl (List.mem_cons_of_mem _ h)
    · rcases List.mem_cons.1 h with rfl | h
      · exact .inl List.mem_cons_self
      · rcases modP_mem h with h | ⟨b, hb, h1, h2⟩
        · exact .inl (List.mem_cons_of_mem _ h)
        · exact .inr ⟨b, List.mem_cons_of_mem _ hb, h1, h2⟩
theorem modP_map {β : Type} {p : α → Bool} {f : α → α} (g : α → β) (hg : ∀ a, g (f a) = g a) : ∀ {l : List α}, (modP p f l).map g = l.map g
  | [] => rfl
  | a :: l => by
    unfold modP
    split
    · simp [hg]
    · simp [modP_map g hg (l := l)]
end
end Led
end Go.Proofs.YtmbpnkacggngkaaGreatDoor
