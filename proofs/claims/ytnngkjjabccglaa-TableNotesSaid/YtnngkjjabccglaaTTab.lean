/- A table in memory, as lists; what is read of it: Last, At, Who, Newest. Conditions: a table in memory. -/
import Derived.Test.YtnngkjjabccglaaTMap
import Derived.Test.YtnngkjjabccglaaTSearch
import Derived.Deep.QuietTactic
import Derived.BigQuiet
import Derived.WalkSpells
import Derived.WalkLawsBesides
set_option linter.unusedVariables false
set_option linter.unusedSimpArgs false
namespace Go.Proofs.Ytnngkjjabccglaa
open Go.RowKit

abbrev Nt := Nat × Nat
structure Tab where
  notes : List (Nat × List Nt)
  who : List (Nat × Nat)
  floor : Nat
  newest : Nat
def ncells : List Nt → List Value
  | [] => []
  | x :: l => u64v x.1 :: u64v x.2 :: ncells l
theorem ncells_length : ∀ l : List Nt, (ncells l).length = l.length * 2
  | [] => rfl
  | x :: l => by simp [ncells, ncells_length l]; omega
theorem ncells_append : ∀ l k : List Nt, ncells (l ++ k) = ncells l ++ ncells k
  | [], k => rfl
  | x :: l, k => by simp [ncells, ncells_append l k]
theorem ncells_one : ∀ l : List Nt, ∀ u ∈ ncells l, u.oneCell' = true
  | [], u, h => by cases h
  | x :: l, u, h => by
    simp only [ncells, List.mem_cons] at h
    rcases h with rfl | rfl | h
    · rfl
    · rfl
    · exact ncells_one l u h
theorem ncells_at : ∀ (l : List Nt) (j : Nat) (x : Nt), l[j]? = some x → (ncells l)[j * 2]? = some (u64v x.1) ∧ (ncells l)[j * 2 + 1]? = some (u64v x.2)
  | [], j, x, h => by simp at h
  | y :: l, 0, x, h => by simp at h; subst h; simp [ncells]
  | y :: l, j + 1, x, h => by
    obtain ⟨h1, h2⟩ := ncells_at l j x (by simpa using h)
    rw [show (j + 1) * 2 = j * 2 + 1 + 1 by omega]
    simp only [ncells, List.getElem?_cons_succ]
    exact ⟨h1, h2⟩
/-- The versions rise. -/
def riseN (l : List Nt) : Prop := ∀ (i j : Nat) (x y : Nt), i < j → l[i]? = some x → l[j]? = some y → x.1 < y.1
abbrev RowN (w : World) (B : Nat) (v : Value) (l : List Nt) : Prop := w.ownsRow B 60 2 v l.length (ncells l)
theorem RowN.read {w : World} {B : Nat} {v : Value} {l : List Nt} (h : RowN w B v l) (h0 : l ≠ []) : ∃ g c, v = .slice (some ⟨g, 0, none⟩) l.length c ∧ l.length ≤ c ∧
    ∀ j x, l[j]? = some x → w.cell? ⟨g, j * 2, none⟩ = some (u64v x.1) ∧ w.cell? ⟨g, j * 2 + 1, none⟩ = some (u64v x.2) := by
  rcases h.2 with ⟨rfl, h2⟩ | ⟨g, c, cur, rfl, h3, h4, h5, h6, h7, h8⟩
  · exact absurd (List.eq_nil_of_length_eq_zero h2) h0
  · refine ⟨g, c, rfl, h5, fun j x hx => ?_⟩
    obtain ⟨e1, e2⟩ := ncells_at l j x hx
    have h1 := World.ownsRow.cells h (g := g) rfl (j * 2) _ e1
    have h2 := World.ownsRow.cells h (g := g) rfl (j * 2 + 1) _ e2
    rw [add_lit, Nat.zero_add] at h1 h2
    exact ⟨h1, h2⟩
theorem lookU_row {α β : Type} (f : Nat → β) (k : Nat) : ∀ l : List (Nat × α), lookU k (l.map fun x => (x.1, f x.1)) = (lookU k l).map fun _ => f k
  | [] => rfl
  | (j, v) :: l => by
    simp only [List.map_cons, lookU]
    by_cases h : j = k
    · subst h; simp
    · rw [if_neg h, if_neg h, lookU_row f k l]
theorem lookU_val {α β : Type} (f : α → β) (k : Nat) : ∀ l : List (Nat × α), lookU k (l.map fun x => (x.1, f x.2)) = (lookU k l).map f
  | [] => rfl
  | (j, v) :: l => by
    simp only [List.map_cons, lookU]
    by_cases h : j = k
    · simp [h]
    · rw [if_neg h, if_neg h, lookU_val f k l]

structure TabIn (w : World) (B g N : Nat) (T : Tab) (m1 m2 : Option Nat) (row : Nat → Value) : Prop where
  blk : Blk w g 29 #[.map m1, .map m2, u64v T.floor, u64v T.newest]
  base : B ≤ g
  n1 : ∀ b, m1 = some b → B ≤ b ∧ MapB w b (T.notes.map fun x => (x.1, row x.1))
  n2 : ∀ b, m2 = some b → B ≤ b ∧ MapB w b (T.who.map fun x => (x.1, u64v x.2))
  z1 : m1 = none → T.notes = [] ∧ T.who = [] ∧ m2 = none
  z2 : m2 = none → m1 = none
  ne : ∀ b, m1 = some b → m2 ≠ some b
  rows : ∀ c l, lookU c T.notes = some l → RowN w B (row c) l ∧ l ≠ [] ∧ l.length ≤ N ∧ riseN l
  apart : ∀ c d l k, lookU c T.notes = some l → lookU d T.notes = some k → c ≠ d → (row c).ownBlock ≠ (row d).ownBlock
  nd : (T.notes.map (·.1)).Nodup
  nd2 : (T.who.map (·.1)).Nodup
  nums : T.floor < 9223372036854775808 ∧ T.newest < 9223372036854775808 ∧ N ≤ 1000000
  numsL : ∀ c l, lookU c T.notes = some l → ∀ x ∈ l, x.1 ≤ T.newest ∧ x.2 < 9223372036854775808
theorem TabIn.under {w w' : World} {B g N : Nat} {T : Tab} {m1 m2 : Option Nat} {row : Nat → Value} (h : TabIn w B g N T m1 m2 row) (hb : Below w.heap.size w w') : TabIn w' B g N T m1 m2 row :=
  ⟨h.blk.under hb, h.base, fun b e => ⟨(h.n1 b e).1, (h.n1 b e).2.under hb⟩, fun b e => ⟨(h.n2 b e).1, (h.n2 b e).2.under hb⟩, h.z1, h.z2, h.ne, fun c l e => ⟨own_under (h.rows c l e).1 hb, (h.rows c l e).2⟩, h.apart, h.nd, h.nd2, h.nums, h.numsL⟩

/-- What a client's list is. -/
def Tab.of (T : Tab) (c : Nat) : List Nt := (lookU c T.notes).getD []
def lastOf (l : List Nt) : Nat := (l.getLast?.map (·.2)).getD 0
def asOf (l : List Nt) (v : Nat) : Nat := ((l.filter fun x => decide (x.1 ≤ v)).getLast?.map (·.2)).getD 0
def Tab.last (T : Tab) (c : Nat) : Nat := lastOf (T.of c)
def Tab.at_ (T : Tab) (c v : Nat) : Nat × Bool := if v < T.floor then (0, false) else (asOf (T.of c) v, true)
def Tab.whoOf (T : Tab) (v : Nat) : Nat × Nat × Bool := if v < T.floor then (0, 0, false) else match lookU v T.who with | none => (0, 0, false) | some c => (c, (T.at_ c v).1, true)
def rowV (T : Tab) (row : Nat → Value) (c : Nat) : Value := if (lookU c T.notes).isSome then row c else .slice none 0 0

theorem zeroNotes (w : World) : (zeroValue 58).run Try.prog w = .ok (.slice none 0 0) w := by kernel_rfl
theorem zeroU (w : World) : (zeroValue 22).run Try.prog w = .ok (u64v 0) w := by kernel_rfl
theorem TabIn.look1 {w : World} {B g N : Nat} {T : Tab} {m1 m2 : Option Nat} {row : Nat → Value} (h : TabIn w B g N T m1 m2 row) (c : Nat) :
    (Instr.lookup 26 (.map m1) (u64v c) false).run Try.prog w = .ok (rowV T row c) w := by
  cases m1 with
  | none =>
    have := (h.z1 rfl).1
    rw [(look_nil (P := Try.prog) Try.underlying26 Try.underlying22 (zeroNotes w) c).1]
    simp [rowV, this, lookU]
  | some b =>
    rw [((h.n1 b rfl).2.look (P := Try.prog) Try.underlying26 Try.underlying22 (zeroNotes w) c).1, lookU_row row c]
    unfold rowV
    cases lookU c T.notes <;> rfl
theorem TabIn.look2 {w : World} {B g N : Nat} {T : Tab} {m1 m2 : Option Nat} {row : Nat → Value} (h : TabIn w B g N T m1 m2 row) (c : Nat) :
    (Instr.lookup 27 (.map m2) (u64v c) true).run Try.prog w = .ok (.tuple #[u64v ((lookU c T.who).getD 0), .bool (lookU c T.who).isSome]) w := by
  cases m2 with
  | none =>
    have := (h.z1 (h.z2 rfl)).2.1
    rw [(look_nil (P := Try.prog) Try.underlying27 Try.underlying22 (zeroU w) c).2]
    simp [this, lookU]
  | some b =>
    rw [((h.n2 b rfl).2.look (P := Try.prog) Try.underlying27 Try.underlying22 (zeroU w) c).2, lookU_val u64v c]
    cases lookU c T.who <;> rfl

theorem tlast_nil (c : Nat) (w : World) : Calls Try.prog 12 #[.pointer none, u64v c] w fun e w' => e = .returned (u64v 0) ∧ w = w' := by
  go_enter Try.func12, Try.ntmps12
  go_wp2_with fail
  go_ret
  exact ⟨rfl, rfl⟩
set_option maxRecDepth 100000 in
theorem tlast_any {w : World} {B g N : Nat} {T : Tab} {m1 m2 : Option Nat} {row : Nat → Value} (h : TabIn w B g N T m1 m2 row) (c : Nat) : Calls Try.prog 12 #[.pointer (some ⟨g, 0, none⟩), u64v c] w fun e w' => e = .returned (u64v (T.last c)) ∧ w = w' := by
  have hl := h.look1 c
  have c0 := h.blk.cell 0
  simp at c0
  cases hc : lookU c T.notes with
  | none =>
    have hv : rowV T row c = .slice none 0 0 := by simp [rowV, hc]
    have ht : T.last c = 0 := by simp [Tab.last, Tab.of, hc, lastOf]
    rw [hv] at hl
    rw [ht]
    clear hc hv ht
    go_enter Try.func12, Try.ntmps12
    go_wp2_with fail
    go_ret
    exact ⟨rfl, rfl⟩
  | some l =>
    obtain ⟨hr, h0, hN, _⟩ := h.rows c l hc
    obtain ⟨gb, cp, hv, hcp, hcell⟩ := hr.read h0
    have hv' : rowV T row c = .slice (some ⟨gb, 0, none⟩) l.length cp := by simp [rowV, hc, hv]
    have hpos : 0 < l.length := List.length_pos_iff.2 h0
    obtain ⟨x, hx⟩ : ∃ x, l[l.length - 1]? = some x := ⟨_, List.getElem?_eq_getElem (by omega)⟩
    have ht : T.last c = x.2 := by
      simp only [Tab.last, Tab.of, hc, lastOf, Option.getD_some]
      rw [List.getLast?_eq_getElem?, hx]; rfl
    obtain ⟨_, hc2⟩ := hcell _ _ hx
    rw [hv'] at hl
    rw [ht]
    have hnn := h.nums.2.2
    have hz : ((l.length : Int) == 0) = false := beq_eq_false_iff_ne.2 (by omega)
    have hw1 : IntKind.i64.wrap ((l.length : Int) - 1) = ((l.length - 1 : Nat) : Int) := by rw [IntWalk.i64_in _ (by omega)]; omega
    have hw2 : (l.length : Int) - 1 = ((l.length - 1 : Nat) : Int) := by omega
    have hb1 : ((l.length - 1 : Nat) : Int) < (l.length : Int) := by omega
    have hb0 : (0 : Int) ≤ ((l.length - 1 : Nat) : Int) := by omega
    clear hc hv hv' ht hr h0 hcell hx
    go_enter Try.func12, Try.ntmps12
    go_wp2_with fail
    go_ret
    exact ⟨rfl, rfl⟩
end Go.Proofs.Ytnngkjjabccglaa
