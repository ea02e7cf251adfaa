/- A table and a list of all its notes tell the same (nothing is forgotten). No program in sight. -/
import Derived.Test.YtnngkjjabccglaaTRefT3
set_option linter.unusedVariables false
set_option linter.unusedSimpArgs false
namespace Go.Proofs.Ytnngkjjabccglaa
open Go.RowKit

structure Same (T : Tab) (L : List Rn) : Prop where
  floor : T.floor = 0
  newest : T.newest = newR L
  of_ : ∀ c, T.of c = (L.filter fun x => decide (x.1 = c)).map fun x => (x.2.1, x.2.2)
  who : ∀ v, lookU v T.who = (whoR v L).map (·.1)
  rise : L.Pairwise fun x y => x.2.1 < y.2.1
theorem Same.start : Same tab0 [] := ⟨rfl, rfl, fun _ => rfl, fun _ => rfl, List.Pairwise.nil⟩
theorem Same.last {T : Tab} {L : List Rn} (h : Same T L) (c : Nat) : T.last c = lastR c L := by
  unfold Tab.last lastOf lastR
  rw [h.of_, List.getLast?_map]
  cases (L.filter fun x => decide (x.1 = c)).getLast? <;> rfl
theorem Same.asOf {T : Tab} {L : List Rn} (h : Same T L) (c v : Nat) : asOf (T.of c) v = atR c v L := by
  unfold Go.Proofs.Ytnngkjjabccglaa.asOf atR
  rw [h.of_, List.filter_map, List.filter_filter, List.getLast?_map]
  have e : (L.filter fun x => ((fun x : Nt => decide (x.1 ≤ v)) ∘ fun x : Rn => (x.2.1, x.2.2)) x && decide (x.1 = c)) = L.filter fun x => decide (x.1 = c ∧ x.2.1 ≤ v) := by
    congr 1
    funext x
    simp [Bool.and_comm]
  rw [e]
  cases (L.filter fun x => decide (x.1 = c ∧ x.2.1 ≤ v)).getLast? <;> rfl
theorem Same.at_ {T : Tab} {L : List Rn} (h : Same T L) (c v : Nat) : T.at_ c v = (atR c v L, true) := by
  unfold Tab.at_
  rw [h.floor, if_neg (Nat.not_lt_zero v), h.asOf]
theorem atR_found {L : List Rn} (hr : L.Pairwise fun x y => x.2.1 < y.2.1) {v : Nat} {x : Rn} (h : whoR v L = some x) : atR x.1 v L = x.2.2 := by
  obtain ⟨hv, A, C, rfl, _⟩ := List.find?_eq_some_iff_append.1 h
  have hv : x.2.1 = v := by simpa using hv
  have hC : ∀ y ∈ C, v < y.2.1 := fun y hy => by
    have := (List.pairwise_cons.1 (List.pairwise_append.1 hr).2.1).1 y hy
    omega
  unfold atR
  rw [List.filter_append, List.filter_cons_of_pos (by simp [hv])]
  have e : C.filter (fun y => decide (y.1 = x.1 ∧ y.2.1 ≤ v)) = [] := List.filter_eq_nil_iff.2 fun y hy => by
    have := hC y hy
    simp; omega
  rw [e]
  simp
theorem Same.whoOf {T : Tab} {L : List Rn} (h : Same T L) (v : Nat) : T.whoOf v = (((whoR v L).getD (0, 0, 0)).1, ((whoR v L).getD (0, 0, 0)).2.2, (whoR v L).isSome) := by
  unfold Tab.whoOf
  rw [h.floor, if_neg (Nat.not_lt_zero v), h.who]
  cases hw : whoR v L with
  | none => rfl
  | some x => simp [h.at_, atR_found h.rise hw]
theorem newR_le {L : List Rn} (hr : L.Pairwise fun x y => x.2.1 < y.2.1) : ∀ x ∈ L, x.2.1 ≤ newR L := by
  intro x hx
  unfold newR
  rcases List.eq_nil_or_concat L with rfl | ⟨A, y, rfl⟩
  · cases hx
  · rw [List.concat_eq_append] at *
    rw [List.getLast?_append]
    simp
    rcases List.mem_append.1 hx with hx | hx
    · exact Nat.le_of_lt ((List.pairwise_append.1 hr).2.2 x hx y (by simp))
    · simp at hx; subst hx; exact Nat.le_refl _
theorem Same.code {T : Tab} {L : List Rn} (h : Same T L) (c v i : Nat) : T.code c v i = rcode L c v i := by
  unfold Tab.code rcode
  rw [h.newest, h.last]
theorem Same.put {T : Tab} {L : List Rn} (h : Same T L) (c v i : Nat) (hv : newR L < v) : Same (T.put c v i) (L ++ [(c, v, i)]) := by
  refine ⟨h.floor, by simp [Tab.put, newR], fun d => ?_, fun u => ?_, ?_⟩
  · have e : (T.put c v i).of d = if c = d then T.of c ++ [(v, i)] else T.of d := by
      unfold Tab.of Tab.put
      rw [lookU_put]
      by_cases hd : c = d
      · rw [if_pos hd, if_pos hd]; rfl
      · rw [if_neg hd, if_neg hd]
    rw [e, List.filter_append, List.map_append]
    by_cases hd : c = d
    · subst hd; rw [if_pos rfl, h.of_]; simp
    · rw [if_neg hd, h.of_]; simp [hd]
  · have e : lookU u (T.put c v i).who = if v = u then some c else lookU u T.who := lookU_put v u c T.who
    rw [e]
    unfold whoR
    rw [List.find?_append]
    by_cases hu : v = u
    · subst hu
      have hn : L.find? (fun x => decide (x.2.1 = v)) = none := List.find?_eq_none.2 fun y hy => by
        have := newR_le h.rise y hy
        simp; omega
      rw [if_pos rfl, hn]; simp
    · rw [if_neg hu, h.who]
      unfold whoR
      cases L.find? (fun x => decide (x.2.1 = u)) <;> simp [hu]
  · refine List.pairwise_append.2 ⟨h.rise, by simp, fun x hx y hy => ?_⟩
    simp at hy
    subst hy
    exact Nat.lt_of_le_of_lt (newR_le h.rise x hx) hv
/-- What a note makes of both. -/
def Tab.after (T : Tab) (c v i : Nat) : Tab := if T.code c v i = 0 then T.put c v i else T
def afterR (L : List Rn) (c v i : Nat) : List Rn := if rcode L c v i = 0 then L ++ [(c, v, i)] else L
theorem rcode_new {L : List Rn} {c v i : Nat} (h : rcode L c v i = 0) : newR L < v := by
  unfold rcode at h
  cases h1 : mayN c <;> cases h2 : mayN v <;> cases h3 : mayN i <;> simp [h1, h2, h3] at h
  by_cases h4 : v ≤ newR L ∨ i ≤ lastR c L
  · rw [if_pos h4] at h; cases h
  · omega
theorem Same.after {T : Tab} {L : List Rn} (h : Same T L) (c v i : Nat) : Same (T.after c v i) (afterR L c v i) := by
  unfold Tab.after afterR
  rw [h.code]
  by_cases hc : rcode L c v i = 0
  · rw [if_pos hc, if_pos hc]; exact h.put c v i (rcode_new hc)
  · rw [if_neg hc, if_neg hc]; exact h
end Go.Proofs.Ytnngkjjabccglaa
