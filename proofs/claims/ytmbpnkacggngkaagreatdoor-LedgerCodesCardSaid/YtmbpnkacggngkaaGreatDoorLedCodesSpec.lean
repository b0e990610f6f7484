/- LEDGER, plainly: an operation of which few is left. -/
import Derived.Test.YtmbpnkacggngkaaGreatDoorLedSpec
namespace Go.Proofs.YtmbpnkacggngkaaGreatDoor
namespace Led

/-- The first 60 bytes. -/
def few (s : Txt) : Txt := s.take 60
/-- A key of which few is left; one without a name gets one (R: which). -/
def KeyTo (R : Txt → Txt → Prop) (k k' : Jwk) : Prop := k'.x = few k.x ∧ if few k.kid = [] then R (few k.x) k'.kid else k'.kid = few k.kid
/-- An operation of which few is left, with these keys. -/
def cutOp (o : Op) (K : List Jwk) : Op :=
  ⟨o.kind, o.n, few o.name, ⟨o.entry.n, few o.entry.path, few o.entry.parent, o.entry.ttl, (o.entry.sels.take 6).map few⟩, ⟨few o.join.text, few o.join.name, o.join.expires, o.join.used⟩,
   ⟨few o.node.name, few o.node.key, o.node.expires, o.node.seq, few o.node.doc⟩, ⟨few o.key.kid, few o.key.seed, o.key.state, o.key.since⟩, ⟨few o.bundle.domain, o.bundle.number, K⟩⟩
/-- Keys, one by one. -/
def KeysTo (R : Txt → Txt → Prop) : List Jwk → List Jwk → Prop
  | [], [] => True
  | k :: L, k' :: K => KeyTo R k k' ∧ KeysTo R L K
  | _, _ => False
theorem KeysTo.length {R : Txt → Txt → Prop} : ∀ {L K : List Jwk}, KeysTo R L K → K.length = L.length
  | [], [], _ => rfl
  | _ :: L, _ :: K, h => by simp [KeysTo.length (L := L) (K := K) h.2]
  | [], _ :: _, h => h.elim
  | _ :: _, [], h => h.elim
theorem KeysTo.snoc {R : Txt → Txt → Prop} : ∀ {L K : List Jwk} {k k' : Jwk}, KeysTo R L K → KeyTo R k k' → KeysTo R (L ++ [k]) (K ++ [k'])
  | [], [], _, _, _, h => ⟨h, trivial⟩
  | _ :: L, _ :: K, _, _, h, h' => ⟨h.1, KeysTo.snoc (L := L) (K := K) h.2 h'⟩
  | [], _ :: _, _, _, h, _ => h.elim
  | _ :: _, [], _, _, h, _ => h.elim
theorem few_len (s : Txt) : (few s).length ≤ 60 := by unfold few; rw [List.length_take]; omega
theorem KeysTo.len {R : Txt → Txt → Prop} (hR : ∀ x r, R x r → r.length ≤ 60) : ∀ {L K : List Jwk}, KeysTo R L K → ∀ k ∈ K, k.kid.length ≤ 60 ∧ k.x.length ≤ 60
  | [], [], _, k, hk => by simp at hk
  | x :: L, y :: K, h, k, hk => by
    rcases List.mem_cons.1 hk with rfl | hk
    · obtain ⟨h1, h2⟩ := h.1
      refine ⟨?_, by rw [h1]; exact few_len _⟩
      split at h2
      · exact hR _ _ h2
      · rw [h2]; exact few_len _
    · exact KeysTo.len hR (L := L) (K := K) h.2 k hk
  | [], _ :: _, h, _, _ => h.elim
  | _ :: _, [], h, _, _ => h.elim
/-- Of a kind from 0 to 255, it is one that has bytes. -/
theorem cutOp_fit {R : Txt → Txt → Prop} (hR : ∀ x r, R x r → r.length ≤ 60) {o : Op} {K : List Jwk} (hK : KeysTo R (o.bundle.keys.take 9) K) (h0 : 0 ≤ o.kind) (h1 : o.kind < 256)
    (hn : I64 o.n) (hen : I64 o.entry.n) (htt : I64 o.entry.ttl) (hje : I64 o.join.expires) (hne : I64 o.node.expires) (hns : I64 o.node.seq) (hks : I64 o.key.state) (hki : I64 o.key.since) (hbn : I64 o.bundle.number) : (cutOp o K).Fit := by
  have f : ∀ s : Txt, (few s).length < 65536 := fun s => by have := few_len s; omega
  have hl := hK.length
  rw [List.length_take] at hl
  refine ⟨⟨h0, h1⟩, hn, f _, hen, f _, f _, htt, ?_, ?_, f _, f _, hje, f _, f _, hne, hns, f _, f _, f _, hks, hki, f _, hbn, ?_, ?_⟩
  · show ((o.entry.sels.take 6).map few).length < 256
    rw [List.length_map, List.length_take]
    omega
  · intro x hx
    obtain ⟨y, _, rfl⟩ := List.mem_map.1 hx
    exact f _
  · show K.length < 256
    omega
  · intro k hk
    have := hK.len hR k hk
    omega
end Led
end Go.Proofs.YtmbpnkacggngkaaGreatDoor
