/- Plain: when may nodes stand together under one? No conditions. -/
import Derived.Test.YtajcmpafbcpicaaShapeLaws
import Derived.Test.YtajcmpafbcpicaaRisingN
set_option linter.unusedVariables false
set_option linter.unusedSimpArgs false
namespace Go.Proofs.Ytajcmpafbcpicaa

theorem firstKey_le {l : List En} (h : rising l = true) {x : En} (hx : x ∈ l) : firstKey l = x.1 ∨ klt (firstKey l) x.1 = true := by
  cases l with
  | nil => cases hx
  | cons y l =>
    rcases List.mem_cons.1 hx with rfl | hx
    · exact .inl rfl
    · exact .inr (rising_lt h x hx)
theorem lastKey_ge {l : List En} (h : rising l = true) {x : En} (hx : x ∈ l) : x.1 = lastKey l ∨ klt x.1 (lastKey l) = true := by
  induction l generalizing x with
  | nil => cases hx
  | cons y l ih =>
    cases l with
    | nil =>
      rcases List.mem_cons.1 hx with rfl | hx
      · exact .inl rfl
      · cases hx
    | cons z l =>
      have hl : lastKey (y :: z :: l) = lastKey (z :: l) := by simp [lastKey]
      rw [hl]
      rcases List.mem_cons.1 hx with rfl | hx
      · have h1 := rising_lt h
        have hz := h1 z (List.mem_cons_self ..)
        rcases ih (rising_tail h) (List.mem_cons_self ..) with e | e
        · rw [← e]; exact .inr hz
        · exact .inr (klt_trans hz e)
      · exact ih (rising_tail h) hx
theorem firstKey_mem {l : List En} (h : l ≠ []) : ∃ x ∈ l, x.1 = firstKey l := by
  cases l with
  | nil => exact absurd rfl h
  | cons x l => exact ⟨x, List.mem_cons_self .., rfl⟩
theorem lastKey_mem {l : List En} (h : l ≠ []) : ∃ x ∈ l, x.1 = lastKey l := by
  refine ⟨l.getLast h, List.getLast_mem h, ?_⟩
  simp [lastKey, List.getLast?_eq_some_getLast h]
theorem rising_join {a b : List En} (ha : rising a = true) (hb : rising b = true) (na : a ≠ []) (nb : b ≠ []) : rising (a ++ b) = klt (lastKey a) (firstKey b) := by
  cases hk : klt (lastKey a) (firstKey b) with
  | true =>
    rw [rising_append]
    refine ⟨ha, hb, fun x hx y hy => ?_⟩
    have h1 : klt x.1 (firstKey b) = true := by
      rcases lastKey_ge ha hx with e | e
      · rw [e]; exact hk
      · exact klt_trans e hk
    rcases firstKey_le hb hy with e | e
    · rw [← e]; exact h1
    · exact klt_trans h1 e
  | false =>
    cases hr : rising (a ++ b) with
    | false => rfl
    | true =>
      obtain ⟨x, hx, ex⟩ := lastKey_mem na
      obtain ⟨y, hy, ey⟩ := firstKey_mem nb
      have := (rising_append.1 hr).2.2 x hx y hy
      rw [ex, ey, hk] at this
      cases this
theorem may_rising {s : Sh} (h : s.may = true) : rising s.flat = true := by
  obtain ⟨es, ks⟩ := s
  cases ks with
  | nil => simpa [Sh.flat] using ((Sh.may_leaf es).1 h).2
  | cons k ks =>
    have := ((Sh.may_inner es (k :: ks) (by simp)).1 h).2.2.2.2
    simpa [Sh.flat] using this
theorem flats_ne {k : Nd} {ks : List Nd} (h : k.sh.flat ≠ []) : flats (shs (k :: ks)) ≠ [] := by
  simp only [shs, flats, ne_eq, List.append_eq_nil_iff, not_and]
  exact fun e => absurd e h
theorem rising_flats : ∀ (ks : List Nd), (∀ k ∈ ks, k.ok ∧ k.sh.flat ≠ []) → rising (flats (shs ks)) = risingN ks
  | [], _ => rfl
  | [k], h => by
    have := may_rising (h k (List.mem_cons_self ..)).1
    simpa [shs, flats, risingN] using this
  | k :: k2 :: ks, h => by
    have ih := rising_flats (k2 :: ks) (fun x hx => h x (List.mem_cons_of_mem _ hx))
    have h1 := h k (List.mem_cons_self ..)
    have h2 := h k2 (List.mem_cons_of_mem _ (List.mem_cons_self ..))
    show rising (k.sh.flat ++ flats (shs (k2 :: ks))) = (ahead k k2 && risingN (k2 :: ks))
    cases hr : risingN (k2 :: ks) with
    | true =>
      rw [hr] at ih
      rw [rising_join (may_rising h1.1) ih h1.2 (flats_ne h2.2), Bool.and_true]
      have : firstKey (flats (shs (k2 :: ks))) = firstKey k2.sh.flat := by
        simp only [shs, flats]
        exact firstKey_append h2.2
      rw [this]
      rfl
    | false =>
      rw [Bool.and_false]
      cases hq : rising (k.sh.flat ++ flats (shs (k2 :: ks))) with
      | false => rfl
      | true =>
        have := (rising_append.1 hq).2.1
        rw [ih, hr] at this
        cases this
/-- Nodes that may stand together. -/
def together (ks : List Nd) : Prop := ks ≠ [] ∧ (Sh.mk [] (shs ks)).may = true
theorem together_iff (k : Nd) (ks : List Nd) (hok : ∀ x ∈ k :: ks, x.ok) : together (k :: ks) ↔
    2 ≤ (k :: ks).length ∧ (k :: ks).length ≤ 8 ∧ (∀ x ∈ k :: ks, x.cnt ≠ 0 ∧ x.hgt = k.hgt) ∧ risingN (k :: ks) = true := by
  unfold together
  have hne : shs (k :: ks) ≠ [] := by simp [shs]
  rw [Sh.may_inner [] _ hne]
  have hlen : (shs (k :: ks)).length = (k :: ks).length := by simp [shs_map]
  rw [hlen]
  have hh : (Sh.mk [] (shs (k :: ks))).height = 1 + k.hgt := by simp [shs, Sh.height, Nd.hgt]
  rw [hh]
  have hall : (∀ s ∈ shs (k :: ks), s.may = true ∧ s.flat ≠ [] ∧ s.height + 1 = 1 + k.hgt) ↔ ∀ x ∈ k :: ks, x.cnt ≠ 0 ∧ x.hgt = k.hgt := by
    rw [shs_map]
    simp only [List.mem_map, forall_exists_index, and_imp, forall_apply_eq_imp_iff₂]
    constructor
    · intro h x hx
      obtain ⟨_, h2, h3⟩ := h x hx
      refine ⟨?_, by unfold Nd.hgt at *; omega⟩
      unfold Nd.cnt
      intro e
      exact h2 (List.eq_nil_of_length_eq_zero e)
    · intro h x hx
      obtain ⟨h2, h3⟩ := h x hx
      refine ⟨hok x hx, ?_, by unfold Nd.hgt at *; omega⟩
      intro e
      exact h2 (by unfold Nd.cnt; rw [e]; rfl)
  rw [hall]
  constructor
  · rintro ⟨_, _, h2, h3, h4, h5⟩
    refine ⟨h2, h3, h4, ?_⟩
    rw [← rising_flats (k :: ks) (fun x hx => ⟨hok x hx, fun e => (h4 x hx).1 (by unfold Nd.cnt; rw [e]; rfl)⟩)]
    exact h5
  · rintro ⟨h2, h3, h4, h5⟩
    refine ⟨by simp, rfl, h2, h3, h4, ?_⟩
    rw [rising_flats (k :: ks) (fun x hx => ⟨hok x hx, fun e => (h4 x hx).1 (by unfold Nd.cnt; rw [e]; rfl)⟩)]
    exact h5
/-- How many entries so many nodes have. -/
def cnts (ks : List Nd) : Nat := (flats (shs ks)).length
theorem cnts_take {ks : List Nd} {i : Nat} {k : Nd} (h : ks[i]? = some k) : cnts (ks.take (i + 1)) = cnts (ks.take i) + k.cnt := by
  have : ks.take (i + 1) = ks.take i ++ [k] := by rw [List.take_add_one, h]; rfl
  rw [this]
  simp [cnts, shs_map, flats_append, flats, Nd.cnt]
theorem cnts_le (ks : List Nd) (i : Nat) : cnts (ks.take i) ≤ cnts ks := by
  have : flats (shs ks) = flats (shs (ks.take i)) ++ flats (shs (ks.drop i)) := by
    rw [← flats_append, shs_map, shs_map, shs_map, ← List.map_append, List.take_append_drop]
  unfold cnts
  rw [this]
  simp
end Go.Proofs.Ytajcmpafbcpicaa
