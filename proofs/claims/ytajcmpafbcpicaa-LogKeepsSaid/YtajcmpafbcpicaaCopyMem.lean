/- What a copy of a value does to memory: rows of values and of members that are rewritten one by one. No program in sight. No conditions. -/
import Derived.Test.YtajcmpafbcpicaaMem
set_option linter.unusedVariables false
set_option linter.unusedSimpArgs false
namespace Go.Proofs.Ytajcmpafbcpicaa
open Go.RowKit

abbrev set6 (w : World) (g o : Nat) (c0 c1 c2 c3 c4 c5 : Value) : World :=
  (((((w.setCell ⟨g, o, none⟩ c0).setCell ⟨g, o + 1, none⟩ c1).setCell ⟨g, o + 2, none⟩ c2).setCell ⟨g, o + 3, none⟩ c3).setCell ⟨g, o + 4, none⟩ c4).setCell ⟨g, o + 5, none⟩ c5
theorem set6_block {w : World} {g o : Nat} {c0 c1 c2 c3 c4 c5 : Value} {k : Nat} (hk : k ≠ g) : (set6 w g o c0 c1 c2 c3 c4 c5).heap[k]? = w.heap[k]? := by
  unfold set6
  repeat rw [Below.heap_setCell _ _ _ _ hk]
theorem set6_size {w : World} {g o : Nat} {c0 c1 c2 c3 c4 c5 : Value} : (set6 w g o c0 c1 c2 c3 c4 c5).heap.size = w.heap.size := by
  simp [set6, World.setCell]
theorem set6_below {w : World} {g o B : Nat} {c0 c1 c2 c3 c4 c5 : Value} (hB : B ≤ g) : Below B w (set6 w g o c0 c1 c2 c3 c4 c5) :=
  ((((((Below.refl _ _).setCell (p := ⟨g, o, none⟩) hB _).setCell (p := ⟨g, o + 1, none⟩) hB _).setCell (p := ⟨g, o + 2, none⟩) hB _).setCell (p := ⟨g, o + 3, none⟩) hB _).setCell (p := ⟨g, o + 4, none⟩) hB _).setCell (p := ⟨g, o + 5, none⟩) hB _
theorem set6_agree {S : Nat → Prop} {w : World} {g o : Nat} {c0 c1 c2 c3 c4 c5 : Value} (hS : ¬ S g) : Agree S w (set6 w g o c0 c1 c2 c3 c4 c5) :=
  fun b hb _ => set6_block (fun e => hS (e ▸ hb))
theorem set6_row {w : World} {g g' o m : Nat} {E : TypeId} {c0 c1 c2 c3 c4 c5 : Value} (h : RowB w g' E m) : RowB (set6 w g o c0 c1 c2 c3 c4 c5) g' E m :=
  (((((h.setCell _ _).setCell _ _).setCell _ _).setCell _ _).setCell _ _).setCell _ _
theorem set6_far {w : World} {g o o' : Nat} {c0 c1 c2 c3 c4 c5 : Value} {cs : List Value} (h : Cells w ⟨g, o', none⟩ cs) (hd : o' + cs.length ≤ o ∨ o + 6 ≤ o') : Cells (set6 w g o c0 c1 c2 c3 c4 c5) ⟨g, o', none⟩ cs := by
  unfold set6
  refine (((((h.far _ ?_).far _ ?_).far _ ?_).far _ ?_).far _ ?_).far _ ?_ <;> (intro j hj; rw [add_lit]; simp only [ne_eq, Addr.mk.injEq, true_and, and_true]; omega)
theorem cell_set_same {w : World} {g o : Nat} {u v : Value} (h : w.cell? ⟨g, o, none⟩ = some u) : (w.setCell ⟨g, o, none⟩ v).cell? ⟨g, o, none⟩ = some v :=
  World.cell?_setCell_same' _ _ _ (by rw [h]; rfl)
theorem cell_set_far {w : World} {g o o' : Nat} {u v : Value} (h : w.cell? ⟨g, o', none⟩ = some u) (hd : o' ≠ o) : (w.setCell ⟨g, o, none⟩ v).cell? ⟨g, o', none⟩ = some u := by
  rw [World.cell?_setCell_other w ⟨g, o, none⟩ ⟨g, o', none⟩ v (by simp only [ne_eq, Addr.mk.injEq, true_and, and_true]; omega)]; exact h
theorem set6_here {w : World} {g o m : Nat} {E : TypeId} {c0 c1 c2 c3 c4 c5 : Value} (h : RowB w g E m) (ho : o + 6 ≤ m) : Cells (set6 w g o c0 c1 c2 c3 c4 c5) ⟨g, o, none⟩ [c0, c1, c2, c3, c4, c5] := by
  have s0 := (h.some (j := o) (by omega)).choose_spec
  have r1 := h.setCell ⟨g, o, none⟩ c0
  have s1 := (r1.some (j := o + 1) (by omega)).choose_spec
  have r2 := r1.setCell ⟨g, o + 1, none⟩ c1
  have s2 := (r2.some (j := o + 2) (by omega)).choose_spec
  have r3 := r2.setCell ⟨g, o + 2, none⟩ c2
  have s3 := (r3.some (j := o + 3) (by omega)).choose_spec
  have r4 := r3.setCell ⟨g, o + 3, none⟩ c3
  have s4 := (r4.some (j := o + 4) (by omega)).choose_spec
  have r5 := r4.setCell ⟨g, o + 4, none⟩ c4
  have s5 := (r5.some (j := o + 5) (by omega)).choose_spec
  intro j u hu
  rw [add_lit]
  match j, hu with
  | 0, hu =>
    simp at hu; subst hu
    exact cell_set_far (cell_set_far (cell_set_far (cell_set_far (cell_set_far (cell_set_same s0) (by omega)) (by omega)) (by omega)) (by omega)) (by omega)
  | 1, hu =>
    simp at hu; subst hu
    exact cell_set_far (cell_set_far (cell_set_far (cell_set_far (cell_set_same s1) (by omega)) (by omega)) (by omega)) (by omega)
  | 2, hu =>
    simp at hu; subst hu
    exact cell_set_far (cell_set_far (cell_set_far (cell_set_same s2) (by omega)) (by omega)) (by omega)
  | 3, hu =>
    simp at hu; subst hu
    exact cell_set_far (cell_set_far (cell_set_same s3) (by omega)) (by omega)
  | 4, hu =>
    simp at hu; subst hu
    exact cell_set_far (cell_set_same s4) (by omega)
  | 5, hu =>
    simp at hu; subst hu
    exact cell_set_same s5
  | j + 6, hu => simp at hu

/-- A row of the call's own that holds a list of values, the parts of the one at the place i in blocks of S i. -/
def LRow (w : World) (base : Nat) (S : Nat → Nat → Prop) (l : List V) (p : Option Addr) (g : Nat) : Prop :=
  0 < l.length → p = some ⟨g, 0, none⟩ ∧ base ≤ g ∧ RowB w g 42 (l.length * 6) ∧
    ∀ i y, l[i]? = some y → ∃ pl cl po co, Cells w ⟨g, i * 6, none⟩ (vcells y pl cl po co) ∧ VIn w (S i) y pl po
def ORow (w : World) (base : Nat) (S : Nat → Nat → Prop) (l : List (Key × V)) (p : Option Addr) (g : Nat) : Prop :=
  0 < l.length → p = some ⟨g, 0, none⟩ ∧ base ≤ g ∧ RowB w g 214 (l.length * 7) ∧
    ∀ i y, l[i]? = some y → ∃ pl cl po co, Cells w ⟨g, i * 7, none⟩ (ecells y.1 y.2 pl cl po co) ∧ VIn w (S i) y.2 pl po

theorem LRow.of_clone {w w1 : World} {S : Nat → Prop} {l : List V} {base c : Nat} {p : Option Addr} {cells : List Value}
    (hcl : ∀ i y, l[i]? = some y → ∃ pl cl po co, (∀ j u, (vcells y pl cl po co)[j]? = some u → cells[i * 6 + j]? = some u) ∧ VIn w S y pl po)
    (ho : w1.ownsRow base 42 6 (.slice p l.length c) l.length cells) (hb : Below w.heap.size w w1) (h1 : 0 < w1.heap.size) : ∃ g, g < w1.heap.size ∧ LRow w1 base (fun _ b => S b ∧ b < w.heap.size) l p g := by
  obtain ⟨p', c', hv, hr, hc⟩ := own_form ho
  injection hv with e1 e2 e3
  subst e1
  rcases Nat.eq_zero_or_pos l.length with h0 | h0
  · exact ⟨0, h1, fun h => by omega⟩
  obtain ⟨g, hg, hbg, hrow⟩ := hr h0
  refine ⟨g, hrow.lt, fun _ => ⟨hg, hbg, hrow, fun i y hy => ?_⟩⟩
  obtain ⟨pl, cl, po, co, e1, e2⟩ := hcl i y hy
  refine ⟨pl, cl, po, co, fun j u hu => ?_, (e2.keep (S' := fun b => S b ∧ b < w.heap.size) fun b hb' hl => ⟨⟨hb', hl⟩, hb.block b hl⟩)⟩
  have := hc g hg _ u (e1 j u hu)
  rw [add_lit] at this ⊢
  rwa [show 0 + (i * 6 + j) = i * 6 + j by omega] at this
theorem ORow.of_clone {w w1 : World} {S : Nat → Prop} {l : List (Key × V)} {base c : Nat} {p : Option Addr} {cells : List Value}
    (hcl : ∀ i y, l[i]? = some y → ∃ pl cl po co, (∀ j u, (ecells y.1 y.2 pl cl po co)[j]? = some u → cells[i * 7 + j]? = some u) ∧ VIn w S y.2 pl po)
    (ho : w1.ownsRow base 214 7 (.slice p l.length c) l.length cells) (hb : Below w.heap.size w w1) (h1 : 0 < w1.heap.size) : ∃ g, g < w1.heap.size ∧ ORow w1 base (fun _ b => S b ∧ b < w.heap.size) l p g := by
  obtain ⟨p', c', hv, hr, hc⟩ := own_form ho
  injection hv with e1 e2 e3
  subst e1
  rcases Nat.eq_zero_or_pos l.length with h0 | h0
  · exact ⟨0, h1, fun h => by omega⟩
  obtain ⟨g, hg, hbg, hrow⟩ := hr h0
  refine ⟨g, hrow.lt, fun _ => ⟨hg, hbg, hrow, fun i y hy => ?_⟩⟩
  obtain ⟨pl, cl, po, co, e1, e2⟩ := hcl i y hy
  refine ⟨pl, cl, po, co, fun j u hu => ?_, (e2.keep (S' := fun b => S b ∧ b < w.heap.size) fun b hb' hl => ⟨⟨hb', hl⟩, hb.block b hl⟩)⟩
  have := hc g hg _ u (e1 j u hu)
  rw [add_lit] at this ⊢
  rwa [show 0 + (i * 7 + j) = i * 7 + j by omega] at this

theorem LRow.keep {w w' : World} {base g : Nat} {S : Nat → Nat → Prop} {l : List V} {p : Option Addr} (h : LRow w base S l p g)
    (hA : ∀ i b, b = g ∨ S i b → b < w.heap.size → w'.heap[b]? = w.heap[b]?) : LRow w' base S l p g := by
  intro h0
  obtain ⟨h1, h2, h3, h4⟩ := h h0
  refine ⟨h1, h2, h3.block (hA 0 g (.inl rfl) h3.lt), fun i y hy => ?_⟩
  obtain ⟨pl, cl, po, co, e1, e2⟩ := h4 i y hy
  exact ⟨pl, cl, po, co, e1.keep (S := (· = g)) (fun b hb hl => hA i b (.inl hb) hl) rfl, e2.agree fun b hb hl => hA i b (.inr hb) hl⟩
theorem ORow.keep {w w' : World} {base g : Nat} {S : Nat → Nat → Prop} {l : List (Key × V)} {p : Option Addr} (h : ORow w base S l p g)
    (hA : ∀ i b, b = g ∨ S i b → b < w.heap.size → w'.heap[b]? = w.heap[b]?) : ORow w' base S l p g := by
  intro h0
  obtain ⟨h1, h2, h3, h4⟩ := h h0
  refine ⟨h1, h2, h3.block (hA 0 g (.inl rfl) h3.lt), fun i y hy => ?_⟩
  obtain ⟨pl, cl, po, co, e1, e2⟩ := h4 i y hy
  exact ⟨pl, cl, po, co, e1.keep (S := (· = g)) (fun b hb hl => hA i b (.inl hb) hl) rfl, e2.agree fun b hb hl => hA i b (.inr hb) hl⟩
theorem LRow.under {w w' : World} {base g : Nat} {S : Nat → Nat → Prop} {l : List V} {p : Option Addr} (h : LRow w base S l p g) (hb : Below w.heap.size w w') : LRow w' base S l p g := h.keep fun _ b _ hl => hb.block b hl
theorem ORow.under {w w' : World} {base g : Nat} {S : Nat → Nat → Prop} {l : List (Key × V)} {p : Option Addr} (h : ORow w base S l p g) (hb : Below w.heap.size w w') : ORow w' base S l p g := h.keep fun _ b _ hl => hb.block b hl

/-- The one at the place k is another one's copy now. -/
theorem LRow.step {w : World} {base g k n0 : Nat} {So Sn : Nat → Prop} {l : List V} {p : Option Addr} {y : V} {pl po : Option Addr} {cl co : Nat}
    (h : LRow w base (fun i b => if i < k then Sn b else So b) l p g) (hy : l[k]? = some y) (hv : VIn w (fun b => n0 ≤ b) y pl po)
    (hn : ∀ b, n0 ≤ b → b < w.heap.size → Sn b) (hg : ¬ Sn g) (hg' : ¬ So g) :
    LRow (set6 w g (k * 6) (.int .i64 y.kind) (.bool y.bool) (.int .i64 y.num) (.string y.text) (.slice pl y.list.length cl) (.slice po y.obj.length co)) base (fun i b => if i < k + 1 then Sn b else So b) l p g := by
  have hk : k < l.length := (List.getElem?_eq_some_iff.1 hy).1
  intro h0
  obtain ⟨h1, h2, h3, h4⟩ := h h0
  refine ⟨h1, h2, set6_row h3, fun i z hz => ?_⟩
  have hi : i < l.length := (List.getElem?_eq_some_iff.1 hz).1
  by_cases e : i = k
  · subst e
    rw [hy] at hz
    injection hz with hz
    subst hz
    refine ⟨pl, cl, po, co, set6_here h3 (by omega), ?_⟩
    simp only [Nat.lt_succ_self, if_true]
    exact (hv.more hn).agree (set6_agree hg)
  · obtain ⟨pl', cl', po', co', e1, e2⟩ := h4 i z hz
    refine ⟨pl', cl', po', co', set6_far e1 (by simp; omega), ?_⟩
    by_cases hik : i < k
    · simp only [hik, if_true, show i < k + 1 by omega] at e2 ⊢
      exact e2.agree (set6_agree hg)
    · simp only [hik, if_false, show ¬ i < k + 1 by omega] at e2 ⊢
      exact e2.agree (set6_agree hg')
theorem ORow.step {w : World} {base g k n0 : Nat} {So Sn : Nat → Prop} {l : List (Key × V)} {p : Option Addr} {y : Key × V} {pl po : Option Addr} {cl co : Nat}
    (h : ORow w base (fun i b => if i < k then Sn b else So b) l p g) (hy : l[k]? = some y) (hv : VIn w (fun b => n0 ≤ b) y.2 pl po)
    (hn : ∀ b, n0 ≤ b → b < w.heap.size → Sn b) (hg : ¬ Sn g) (hg' : ¬ So g) :
    ORow (set6 w g (k * 7 + 1) (.int .i64 y.2.kind) (.bool y.2.bool) (.int .i64 y.2.num) (.string y.2.text) (.slice pl y.2.list.length cl) (.slice po y.2.obj.length co)) base (fun i b => if i < k + 1 then Sn b else So b) l p g := by
  have hk : k < l.length := (List.getElem?_eq_some_iff.1 hy).1
  intro h0
  obtain ⟨h1, h2, h3, h4⟩ := h h0
  refine ⟨h1, h2, set6_row h3, fun i z hz => ?_⟩
  have hi : i < l.length := (List.getElem?_eq_some_iff.1 hz).1
  by_cases e : i = k
  · subst e
    rw [hy] at hz
    injection hz with hz
    subst hz
    obtain ⟨pl', cl', po', co', e1, e2⟩ := h4 i y hy
    refine ⟨pl, cl, po, co, ?_, ?_⟩
    · have c0 : Cells w ⟨g, i * 7, none⟩ [.string y.1] := Cells.append_left (xs := [.string y.1]) e1
      refine Cells.append (xs := [.string y.1]) (set6_far c0 (by simp)) ?_
      rw [add_lit]
      exact set6_here h3 (by omega)
    · simp only [Nat.lt_succ_self, if_true]
      exact (hv.more hn).agree (set6_agree hg)
  · obtain ⟨pl', cl', po', co', e1, e2⟩ := h4 i z hz
    refine ⟨pl', cl', po', co', set6_far e1 (by simp; omega), ?_⟩
    by_cases hik : i < k
    · simp only [hik, if_true, show i < k + 1 by omega] at e2 ⊢
      exact e2.agree (set6_agree hg)
    · simp only [hik, if_false, show ¬ i < k + 1 by omega] at e2 ⊢
      exact e2.agree (set6_agree hg')
theorem LRow.lin {w : World} {base g : Nat} {S : Nat → Nat → Prop} {T : Nat → Prop} {l : List V} {p : Option Addr} (h : LRow w base S l p g) (hg : ∀ b, base ≤ b → T b) (hS : ∀ i b, i < l.length → S i b → T b) : LIn w T l p := by
  intro i y hy
  have hi : i < l.length := (List.getElem?_eq_some_iff.1 hy).1
  obtain ⟨h1, h2, h3, h4⟩ := h (by omega)
  obtain ⟨pl, cl, po, co, e1, e2⟩ := h4 i y hy
  refine ⟨_, pl, cl, po, co, h1, hg _ h2, ?_, e2.more fun b hb _ => hS i b hi hb⟩
  rw [add_lit]
  simpa using e1
theorem ORow.ein {w : World} {base g : Nat} {S : Nat → Nat → Prop} {T : Nat → Prop} {l : List (Key × V)} {p : Option Addr} (h : ORow w base S l p g) (hg : ∀ b, base ≤ b → T b) (hS : ∀ i b, i < l.length → S i b → T b) : EIn w T l p := by
  intro i y hy
  have hi : i < l.length := (List.getElem?_eq_some_iff.1 hy).1
  obtain ⟨h1, h2, h3, h4⟩ := h (by omega)
  obtain ⟨pl, cl, po, co, e1, e2⟩ := h4 i y hy
  refine ⟨_, pl, cl, po, co, h1, hg _ h2, ?_, e2.more fun b hb _ => hS i b hi hb⟩
  rw [add_lit]
  simpa using e1
end Go.Proofs.Ytajcmpafbcpicaa
