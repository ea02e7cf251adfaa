/- Plain: what comes of putting a key into a node. No program in sight. No conditions. -/
import Derived.Test.YtajcmpafbcpicaaTreeNd
set_option linter.unusedVariables false
set_option linter.unusedSimpArgs false
namespace Go.Proofs.Ytajcmpafbcpicaa

/-- Kids that may stand under one, however many there are. -/
structure Good (h : Nat) (ks : List Nd) : Prop where
  all : ∀ k ∈ ks, k.ok ∧ k.sh.flat ≠ [] ∧ k.hgt = h
  ris : rising (flats (shs ks)) = true
theorem Good.together {h : Nat} {ks : List Nd} (g : Good h ks) (h2 : 2 ≤ ks.length) (h8 : ks.length ≤ 8) : together ks := by
  obtain ⟨k, l, rfl⟩ : ∃ k l, ks = k :: l := by
    cases ks with
    | nil => simp at h2
    | cons k l => exact ⟨k, l, rfl⟩
  refine (together_iff k l fun x hx => (g.all x hx).1).2 ⟨h2, h8, fun x hx => ⟨fun e => (g.all x hx).2.1 (List.eq_nil_of_length_eq_zero e), ((g.all x hx).2.2).trans (g.all k (by simp)).2.2.symm⟩, ?_⟩
  rw [← rising_flats _ fun x hx => ⟨(g.all x hx).1, (g.all x hx).2.1⟩]
  exact g.ris
theorem Good.take {h : Nat} {ks : List Nd} (g : Good h ks) (i : Nat) : Good h (ks.take i) := by
  refine ⟨fun k hk => g.all k (List.mem_of_mem_take hk), ?_⟩
  have e : flats (shs ks) = flats (shs (ks.take i)) ++ flats (shs (ks.drop i)) := by rw [← flats_append, shs_map, shs_map, shs_map, ← List.map_append, List.take_append_drop]
  have := g.ris
  rw [e] at this
  exact (rising_append.1 this).1
theorem Good.drop {h : Nat} {ks : List Nd} (g : Good h ks) (i : Nat) : Good h (ks.drop i) := by
  refine ⟨fun k hk => g.all k (List.mem_of_mem_drop hk), ?_⟩
  have e : flats (shs ks) = flats (shs (ks.take i)) ++ flats (shs (ks.drop i)) := by rw [← flats_append, shs_map, shs_map, shs_map, ← List.map_append, List.take_append_drop]
  have := g.ris
  rw [e] at this
  exact (rising_append.1 this).2.1
theorem Good.of_ok {n : Nd} (hn : n.ok) (hk : n.kids ≠ []) : Good (n.hgt - 1) n.kids := by
  refine ⟨fun k h => ⟨(Nd.ok_kid hn h).1, (Nd.ok_kid hn h).2.1, by have := (Nd.ok_kid hn h).2.2; omega⟩, ?_⟩
  rw [← Nd.flat_kids hk]
  exact may_rising hn
/-- The node over such kids. -/
theorem Good.node {h : Nat} {ks : List Nd} (g : Good h ks) (h2 : 2 ≤ ks.length) (h8 : ks.length ≤ 8) (a : Nat) : (Nd.mk a [] ks).ok ∧ (Nd.mk a [] ks).hgt = h + 1 ∧ (Nd.mk a [] ks).sh.flat = flats (shs ks) ∧ (Nd.mk a [] ks).sh.flat ≠ [] := by
  have ht := g.together h2 h8
  obtain ⟨k, l, rfl⟩ : ∃ k l, ks = k :: l := by
    cases ks with
    | nil => simp at h2
    | cons k l => exact ⟨k, l, rfl⟩
  have hf : (Nd.mk a [] (k :: l)).sh.flat = flats (shs (k :: l)) := Nd.flat_kids (n := .mk a [] (k :: l)) (by simp [Nd.kids])
  refine ⟨by have := ht.2; simpa [Nd.ok, Nd.sh] using this, ?_, hf, ?_⟩
  · have := (g.all k (by simp)).2.2
    simp only [Nd.hgt, Nd.sh, shs, Sh.height] at this ⊢
    omega
  · rw [hf]; exact flats_ne (g.all k (by simp)).2.1

/-- What comes of putting a key into a node: one or two nodes of its height. -/
structure PutOk (B : Nat) (k : Key) (v : V) (fl : List En) (h : Nat) (ms : List Nd) : Prop where
  one : ms.length = 1 ∨ ms.length = 2
  flat : flats (shs ms) = insE k v fl
  all : ∀ m ∈ ms, m.ok ∧ m.sh.flat ≠ [] ∧ m.hgt = h
  new : ∀ m ∈ ms, B ≤ m.addr

/-- Kids behind a put into the one at i. -/
theorem Good.put {B h : Nat} {ks ms : List Nd} {k : Key} {v : V} {i : Nat} {n : Nd} (g : Good h ks) (ha : KidAt ks k i) (hn : ks[i]? = some n) (hp : PutOk B k v n.sh.flat h ms) :
    Good h (ks.take i ++ (ms ++ ks.drop (i + 1))) ∧ flats (shs (ks.take i ++ (ms ++ ks.drop (i + 1)))) = insE k v (flats (shs ks)) := by
  have hfl : flats (shs (ks.take i ++ (ms ++ ks.drop (i + 1)))) = insE k v (flats (shs ks)) := by
    rw [ha.ins hn g.ris fun x hx => ⟨(g.all x hx).1, (g.all x hx).2.1⟩, ← hp.flat]
    simp [shs_map, flats_append]
  refine ⟨⟨fun x hx => ?_, by rw [hfl]; exact insE_rising g.ris⟩, hfl⟩
  rcases List.mem_append.1 hx with hx | hx
  · exact g.all x (List.mem_of_mem_take hx)
  · rcases List.mem_append.1 hx with hx | hx
    · exact hp.all x hx
    · exact g.all x (List.mem_of_mem_drop hx)
end Go.Proofs.Ytajcmpafbcpicaa
