/- A region that draws its order, walked by an invariant: one obligation for each operation, whatever order they come up in. No program in sight. No conditions. -/
import Derived.WalkKit
import Derived.OrdersHeld
import Derived.Deep.DrawnRows
set_option linter.unusedVariables false
set_option linter.unusedSimpArgs false
namespace Go.Proofs.Ytnngkjjabccglaa
open Go.RowKit

/-- Every edge that binds leads back in the text. -/
def backB (ops : Array Oper) : Bool := (List.range ops.size).all fun i => match ops[i]? with
  | some o => o.after.all fun e => !Region.binds .any e || decide (e.on < i)
  | none => true
/-- What an operation waits for. -/
def waitsFor (o : Oper) : List Nat := (o.after.toList.filter fun e => Region.binds .any e).map (·.on)

section
variable {P : Program} {ops : Array Oper} {Q : Exit → Act → World → Prop}

theorem lowest_false : ∀ (n : Nat) (p : Nat → Bool), (∃ i, i < n ∧ p i = false) → ∃ i, i < n ∧ p i = false ∧ ∀ j, j < i → p j = true
  | 0, p, ⟨i, h, _⟩ => absurd h (Nat.not_lt_zero _)
  | n + 1, p, ⟨i, h, hp⟩ => by
    by_cases hx : ∃ i, i < n ∧ p i = false
    · obtain ⟨i, h1, h2, h3⟩ := lowest_false n p hx
      exact ⟨i, by omega, h2, h3⟩
    · have hall : ∀ j, j < n → p j = true := fun j hj => by
        cases hq : p j with
        | true => rfl
        | false => exact absurd ⟨j, hj, hq⟩ hx
      have : i = n := by
        rcases Nat.lt_or_ge i n with h' | h'
        · rw [hall i h'] at hp; cases hp
        · omega
      subst this
      exact ⟨i, h, hp, hall⟩

theorem ready_all {L : Array Bool} (hb : backB ops = true) (hs : L.size = ops.size) (hr : Region.ready .any ops L = []) : ∀ i, i < ops.size → L.getD i false = true := by
  intro i hi
  by_cases hx : ∃ i, i < ops.size ∧ L.getD i true = false
  · exfalso
    obtain ⟨k, h1, h2, h3⟩ := lowest_false ops.size (fun i => L.getD i true) hx
    have hm : k ∈ Region.ready .any ops L := by
      rw [mem_ready]
      refine ⟨h2, ops[k], by simp [h1], fun e he hbd => ?_⟩
      have hbk := List.all_eq_true.1 hb k (List.mem_range.2 h1)
      simp only [h1, Array.getElem?_eq_getElem] at hbk
      have hq := Array.all_eq_true_iff_forall_mem.1 hbk e he
      simp only [hbd, Bool.not_true, Bool.false_or, decide_eq_true_eq] at hq
      have ht := h3 e.on hq
      have hlt : e.on < L.size := by omega
      simp only [Array.getD, hlt, dite_true] at ht ⊢
      exact ht
    rw [hr] at hm
    cases hm
  · have ht : L.getD i true = true := by
      cases hq : L.getD i true with
      | true => rfl
      | false => exact absurd ⟨i, hi, hq⟩ hx
    have hlt : i < L.size := by omega
    simp only [Array.getD, hlt, dite_true] at ht ⊢
    exact ht

theorem filter_le {α : Type} (p q : α → Bool) (h : ∀ x, p x = true → q x = true) : ∀ l : List α, (l.filter p).length ≤ (l.filter q).length
  | [] => Nat.le_refl _
  | x :: l => by
    have := filter_le p q h l
    cases hp : p x with
    | true => simp only [List.filter_cons, hp, h x hp, if_true, List.length_cons]; omega
    | false =>
      cases hq : q x with
      | true => simp only [List.filter_cons, hp, hq, if_true, List.length_cons, Bool.false_eq_true, if_false]; omega
      | false => simp only [List.filter_cons, hp, hq, Bool.false_eq_true, if_false]; exact this
theorem filter_less (p q : Nat → Bool) (h : ∀ x, p x = true → q x = true) (i : Nat) (h1 : p i = false) (h2 : q i = true) : ∀ l : List Nat, i ∈ l → (l.filter p).length + 1 ≤ (l.filter q).length
  | [], hm => by cases hm
  | x :: l, hm => by
    rcases List.mem_cons.1 hm with rfl | hm
    · have := filter_le p q h l
      simp only [List.filter_cons, h1, h2, if_true, List.length_cons, Bool.false_eq_true, if_false]
      omega
    · have := filter_less p q h i h1 h2 l hm
      cases hp : p x with
      | true => simp only [List.filter_cons, hp, h x hp, if_true, List.length_cons]; omega
      | false =>
        cases hq : q x with
        | true => simp only [List.filter_cons, hp, hq, if_true, List.length_cons, Bool.false_eq_true, if_false]; omega
        | false => simp only [List.filter_cons, hp, hq, Bool.false_eq_true, if_false]; exact this

theorem wpAny_inv (I : (Nat → Prop) → Act → World → Prop) (hb : backB ops = true)
    (hs : ∀ i o, ops[i]? = some o → ∀ (L : Nat → Prop) a w, I L a w → ¬ L i → (∀ j, j ∈ waitsFor o → L j) → wpOp P ops Q i (I fun j => j = i ∨ L j) a w)
    (hd : ∀ L a w, I L a w → (∀ i, i < ops.size → L i) → Q .normal a w) :
    ∀ (fuel : Nat) (L : Array Bool) (a : Act) (w : World), L.size = ops.size → I (fun j => L.getD j false = true) a w → (fuel = 0 → Region.ready .any ops L = []) → ((List.range ops.size).filter fun i => !L.getD i false).length ≤ fuel → wpAny P .any ops Q fuel L a w := by
  intro fuel
  induction fuel with
  | zero =>
    intro L a w hsz hI h0 _
    exact ⟨h0 rfl, hd _ a w hI (ready_all hb hsz (h0 rfl))⟩
  | succ fuel ih =>
    intro L a w hsz hI _ hc
    refine ⟨fun hr => hd _ a w hI (ready_all hb hsz hr), fun i hi => ?_⟩
    obtain ⟨hun, o, ho, hall⟩ := mem_ready.1 hi
    have hlt : i < ops.size := (Array.getElem?_eq_some_iff.1 ho).1
    have hlt' : i < L.size := by omega
    have hun' : L.getD i false = false := by
      simp only [Array.getD, hlt', dite_true] at hun ⊢
      exact hun
    have h1 := hs i o ho _ a w hI (by rw [hun']; simp) (fun j hj => by
      unfold waitsFor at hj
      obtain ⟨e, he, rfl⟩ := List.mem_map.1 hj
      obtain ⟨he1, he2⟩ := List.mem_filter.1 he
      exact hall e (by simpa using he1) he2)
    have hsame : ∀ j, (j = i ∨ L.getD j false = true) = ((L.setIfInBounds i true).getD j false = true) := fun j => by
      by_cases hji : j = i
      · subst hji
        simp [hlt']
      · simp [hji, Array.getElem?_setIfInBounds_ne (Ne.symm hji)]
    have hsame' : (fun j => j = i ∨ L.getD j false = true) = fun j => (L.setIfInBounds i true).getD j false = true := funext hsame
    rw [hsame'] at h1
    have hlen : ((List.range ops.size).filter fun j => !(L.setIfInBounds i true).getD j false).length + 1 ≤ ((List.range ops.size).filter fun j => !L.getD j false).length := by
      refine filter_less (fun j => !(L.setIfInBounds i true).getD j false) (fun j => !L.getD j false) (fun j hj => ?_) i ?_ ?_ _ (List.mem_range.2 hlt)
      · cases hq : L.getD j false with
        | false => rfl
        | true =>
          have : (L.setIfInBounds i true).getD j false = true := (hsame j) ▸ (Or.inr hq : j = i ∨ L.getD j false = true)
          simp only [this] at hj
          cases hj
      · have h3 : (L.setIfInBounds i true).getD i false = true := (hsame i) ▸ (Or.inl rfl : i = i ∨ L.getD i false = true)
        simp only [h3]; rfl
      · simp only [hun']; rfl
    refine wpOp_mono (fun a' w' h2 => ih _ a' w' (by simp [hsz]) h2 (fun h0 => ?_) (by omega)) h1
    subst h0
    have hz : ((List.range ops.size).filter fun j => !(L.setIfInBounds i true).getD j false).length = 0 := by omega
    cases hr : Region.ready .any ops (L.setIfInBounds i true) with
    | nil => rfl
    | cons x l =>
      exfalso
      have hx : x ∈ Region.ready .any ops (L.setIfInBounds i true) := by rw [hr]; simp
      obtain ⟨hx1, o', ho', _⟩ := mem_ready.1 hx
      have hxl : x < ops.size := (Array.getElem?_eq_some_iff.1 ho').1
      have hmem : x ∈ (List.range ops.size).filter fun j => !(L.setIfInBounds i true).getD j false := by
        rw [List.mem_filter]
        refine ⟨List.mem_range.2 hxl, ?_⟩
        have hxs : x < (L.setIfInBounds i true).size := by simp; omega
        simp only [Array.getD, hxs, dite_true] at hx1 ⊢
        simpa using hx1
      rw [List.length_eq_zero_iff.1 hz] at hmem
      cases hmem

/-- **A region that draws its order, by an invariant** over the set of operations that have come up. -/
theorem wp_region_inv {id : Nat} {a : Act} {w : World} (I : (Nat → Prop) → Act → World → Prop) (hm : P.follows .mixedOrders = true) (hb : backB ops = true) (h0 : I (fun _ => False) a w.drew)
    (hs : ∀ i o, ops[i]? = some o → ∀ (L : Nat → Prop) a w, I L a w → ¬ L i → (∀ j, j ∈ waitsFor o → L j) → wpOp P ops Q i (I fun j => j = i ∨ L j) a w)
    (hd : ∀ L a w, I L a w → (∀ i, i < ops.size → L i) → Q .normal a w) : (Code.region id ops true).wp P Q a w := by
  refine wp_region_any hm (wpAny_inv I hb hs hd _ _ _ _ (by simp) ?_ (fun h => ?_) (by refine Nat.le_trans (List.length_filter_le _ _) (by simp)))
  · have : (fun j => (Array.replicate ops.size false).getD j false = true) = fun _ => False := funext fun j => by
      by_cases hj : j < ops.size <;> simp [Array.getD, hj]
    rw [this]
    exact h0
  · simp [Region.ready, h]

/-- An operation that comes up and is wanted. -/
theorem wpOp_do {i : Nat} {o : Oper} (ho : ops[i]? = some o) {K : Act → World → Prop} {a : Act} {w : World} (h : if Region.wanted o (yielded ops a.tmps) = true then Oper.wp P o a w K Q else K (a.put o.dst undef) w) : wpOp P ops Q i K a w := by
  unfold wpOp
  rw [ho]
  dsimp only
  by_cases hw : Region.wanted o (yielded ops a.tmps) = true
  · rw [if_pos hw] at h ⊢; exact .inl h
  · rw [if_neg hw] at h ⊢; exact h
end
end Go.Proofs.Ytnngkjjabccglaa
