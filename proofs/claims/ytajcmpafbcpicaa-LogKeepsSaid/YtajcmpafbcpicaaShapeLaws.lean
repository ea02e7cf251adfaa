/- Plain laws of shapes: what a shape that may be is made of. No conditions. -/
import Derived.Test.YtajcmpafbcpicaaShape
set_option linter.unusedVariables false
set_option linter.unusedSimpArgs false
namespace Go.Proofs.Ytajcmpafbcpicaa

theorem mays_iff (h : Nat) (ks : List Sh) : mays h ks = true ↔ ∀ k ∈ ks, k.may = true ∧ k.flat ≠ [] ∧ k.height = h := by
  induction ks with
  | nil => simp [mays]
  | cons k ks ih =>
    simp only [mays, Bool.and_eq_true, ih, decide_eq_true_eq, Bool.not_eq_true', List.isEmpty_eq_false_iff, List.forall_mem_cons]
    constructor
    · rintro ⟨⟨⟨h1, h2⟩, h3⟩, h4⟩; exact ⟨⟨h1, h2, h3⟩, h4⟩
    · rintro ⟨⟨h1, h2, h3⟩, h4⟩; exact ⟨⟨⟨h1, h2⟩, h3⟩, h4⟩
theorem Sh.may_leaf (es : List En) : (Sh.mk es []).may = true ↔ es.length ≤ 8 ∧ rising es = true := by simp [Sh.may]
theorem Sh.may_inner (es : List En) (ks : List Sh) (h0 : ks ≠ []) : (Sh.mk es ks).may = true ↔
    es = [] ∧ 2 ≤ ks.length ∧ ks.length ≤ 8 ∧ (∀ k ∈ ks, k.may = true ∧ k.flat ≠ [] ∧ k.height + 1 = (Sh.mk es ks).height) ∧ rising (flats ks) = true := by
  cases ks with
  | nil => exact absurd rfl h0
  | cons k ks =>
    simp only [Sh.may, Bool.and_eq_true, decide_eq_true_eq, Bool.not_eq_true', List.isEmpty_eq_false_iff, mays_iff, List.isEmpty_iff, List.length_cons, List.forall_mem_cons, flats, Sh.height]
    constructor
    · rintro ⟨⟨⟨⟨h1, h2⟩, h3⟩, ⟨h4, h5⟩, h6⟩, h7⟩
      exact ⟨h1, h2, h3, ⟨⟨h4, h5, by omega⟩, fun x hx => ⟨(h6 x hx).1, (h6 x hx).2.1, by have := (h6 x hx).2.2; omega⟩⟩, h7⟩
    · rintro ⟨h1, h2, h3, ⟨⟨h4, h5, _⟩, h6⟩, h7⟩
      exact ⟨⟨⟨⟨h1, h2⟩, h3⟩, ⟨h4, h5⟩, fun x hx => ⟨(h6 x hx).1, (h6 x hx).2.1, by have := (h6 x hx).2.2; omega⟩⟩, h7⟩
theorem Sh.height_leaf (es : List En) : (Sh.mk es []).height = 0 := by simp [Sh.height]
theorem Sh.height_pos (es : List En) (ks : List Sh) : 0 < (Sh.mk es ks).height ↔ ks ≠ [] := by
  cases ks with
  | nil => simp [Sh.height]
  | cons k ks => simp [Sh.height]; omega
theorem Nd.hgt_pos (n : Nd) : 0 < n.hgt ↔ n.kids ≠ [] := by
  obtain ⟨a, es, ks⟩ := n
  simp only [Nd.hgt, Nd.sh, Sh.height_pos, Nd.kids, shs_map]
  simp
/-- A kid of a node that may be. -/
theorem Nd.ok_kid {n k : Nd} (h : n.ok) (hk : k ∈ n.kids) : k.ok ∧ k.sh.flat ≠ [] ∧ k.hgt + 1 = n.hgt := by
  obtain ⟨a, es, ks⟩ := n
  have hne : shs ks ≠ [] := by rw [shs_map]; intro e; simp at e; subst e; simp [Nd.kids] at hk
  have h' := (Sh.may_inner es (shs ks) hne).1 (by simpa [Nd.ok, Nd.sh] using h)
  have := h'.2.2.2.1 k.sh (by rw [shs_map]; exact List.mem_map_of_mem hk)
  exact ⟨this.1, this.2.1, by simpa [Nd.hgt, Nd.sh] using this.2.2⟩
theorem Nd.ok_inner {n : Nd} (h : n.ok) (hk : n.kids ≠ []) : n.es = [] ∧ 2 ≤ n.kids.length ∧ n.kids.length ≤ 8 := by
  obtain ⟨a, es, ks⟩ := n
  have hne : shs ks ≠ [] := by rw [shs_map]; simpa [Nd.kids] using hk
  have h' := (Sh.may_inner es (shs ks) hne).1 (by simpa [Nd.ok, Nd.sh] using h)
  exact ⟨h'.1, by simpa [shs_map, Nd.kids] using h'.2.1, by simpa [shs_map, Nd.kids] using h'.2.2.1⟩
theorem Nd.flat_leaf {n : Nd} (hk : n.kids = []) : n.sh.flat = n.es := by
  obtain ⟨a, es, ks⟩ := n
  simp only [Nd.kids] at hk
  subst hk
  simp [Nd.sh, shs, Sh.flat, Nd.es]
theorem Nd.flat_inner {n : Nd} (hk : n.kids ≠ []) : n.sh.flat = (n.kids.map Nd.sh).flatMap Sh.flat := by
  obtain ⟨a, es, ks⟩ := n
  cases ks with
  | nil => simp [Nd.kids] at hk
  | cons k ks => simp [Nd.sh, shs, Sh.flat, flats_flatMap, shs_map, Nd.kids]
theorem firstKey_append {a b : List En} (h : a ≠ []) : firstKey (a ++ b) = firstKey a := by
  cases a with
  | nil => exact absurd rfl h
  | cons x a => rfl
theorem lastKey_append {a b : List En} (h : b ≠ []) : lastKey (a ++ b) = lastKey b := by
  unfold lastKey
  rw [List.getLast?_append]
  cases hb : b.getLast? with
  | none => rw [List.getLast?_eq_none_iff] at hb; exact absurd hb h
  | some x => rfl
theorem Nd.first_kid {n k : Nd} (h : n.ok) (hk : n.kids[0]? = some k) : firstKey n.sh.flat = firstKey k.sh.flat := by
  have hm := List.mem_of_getElem? hk
  have hne : n.kids ≠ [] := by intro e; rw [e] at hm; cases hm
  rw [Nd.flat_inner hne]
  cases hks : n.kids with
  | nil => exact absurd hks hne
  | cons k' ks =>
    rw [hks] at hk
    simp at hk
    subst hk
    simp only [List.map_cons, List.flatMap_cons]
    exact firstKey_append (Nd.ok_kid h (by rw [hks]; exact List.mem_cons_self ..)).2.1
theorem Nd.last_kid {n k : Nd} (h : n.ok) (hk : n.kids[n.kids.length - 1]? = some k) : lastKey n.sh.flat = lastKey k.sh.flat := by
  have hm := List.mem_of_getElem? hk
  have hne : n.kids ≠ [] := by intro e; rw [e] at hm; cases hm
  rw [Nd.flat_inner hne]
  have hl : n.kids = n.kids.dropLast ++ [k] := by
    rw [← List.getLast?_eq_getElem?] at hk
    obtain ⟨ys, hys⟩ := List.getLast?_eq_some_iff.1 hk
    rw [hys]
    simp
  rw [hl]
  simp only [List.map_append, List.map_cons, List.map_nil, List.flatMap_append, List.flatMap_cons, List.flatMap_nil, List.append_nil]
  exact lastKey_append (Nd.ok_kid h hm).2.1
end Go.Proofs.Ytajcmpafbcpicaa
