/- Rows of shapes that a call gathers in memory of its own. No program's code in sight. No conditions. -/
import Derived.Test.YtajcmpafbcpicaaNodeMem
set_option linter.unusedVariables false
set_option linter.unusedSimpArgs false
namespace Go.Proofs.Ytajcmpafbcpicaa
open Go.RowKit

abbrev kcells (s : Sh) (qe : Option Addr) (ce : Nat) (qk : Option Addr) (ck : Nat) : List Value := [.slice qe s.es.length ce, .slice qk s.kids.length ck]
/-- Shapes as the cells of a row, one behind the other. -/
inductive KCells (R : Sh → Option Addr → Option Addr → Prop) : List Sh → List Value → Prop
  | nil : KCells R [] []
  | cons {s : Sh} {qe qk : Option Addr} {ce ck : Nat} {ks : List Sh} {cs : List Value} (hx : R s qe qk) (h : KCells R ks cs) : KCells R (s :: ks) (kcells s qe ce qk ck ++ cs)
section
variable {R R' : Sh → Option Addr → Option Addr → Prop}
theorem KCells.length {ks : List Sh} {cs : List Value} (h : KCells R ks cs) : cs.length = ks.length * 2 := by
  induction h with
  | nil => rfl
  | cons hx h ih => simp [ih]; omega
theorem KCells.one {ks : List Sh} {cs : List Value} (h : KCells R ks cs) : ∀ u ∈ cs, u.oneCell' = true := by
  induction h with
  | nil => intro u hu; cases hu
  | cons hx h ih =>
    intro u hu
    rcases List.mem_append.1 hu with hu | hu
    · simp at hu
      rcases hu with rfl | rfl <;> rfl
    · exact ih u hu
theorem KCells.imp {ks : List Sh} {cs : List Value} (h : KCells R ks cs) (hR : ∀ x pl po, R x pl po → R' x pl po) : KCells R' ks cs := by
  induction h with
  | nil => exact .nil
  | cons hx h ih => exact .cons (hR _ _ _ hx) ih
theorem KCells.append {ks ks' : List Sh} {cs cs' : List Value} (h : KCells R ks cs) (h' : KCells R ks' cs') : KCells R (ks ++ ks') (cs ++ cs') := by
  induction h with
  | nil => exact h'
  | cons hx h ih => rw [List.append_assoc]; exact .cons hx ih
theorem KCells.at_ : ∀ {ks : List Sh} {cs : List Value}, KCells R ks cs → ∀ i (s : Sh), ks[i]? = some s → ∃ qe ce qk ck, (∀ j u, (kcells s qe ce qk ck)[j]? = some u → cs[i * 2 + j]? = some u) ∧ R s qe qk
  | _, _, .nil, i, e, he => by simp at he
  | _, _, .cons (s := s) (qe := qe) (qk := qk) (ce := ce) (ck := ck) (ks := ks) (cs := cs) hx h, i, e, he => by
    match i, he with
    | 0, he =>
      simp at he; subst he
      refine ⟨qe, ce, qk, ck, fun j u hu => ?_, hx⟩
      have hj : j < 2 := (List.getElem?_eq_some_iff.1 hu).1
      rw [List.getElem?_append_left (by simp; omega)]
      simpa using hu
    | i + 1, he =>
      obtain ⟨qe', ce', qk', ck', hcc, hvv⟩ := h.at_ i e (by simpa using he)
      refine ⟨qe', ce', qk', ck', fun j u hu => ?_, hvv⟩
      rw [List.getElem?_append_right (by simp; omega)]
      have := hcc j u hu
      simp only [List.length_cons, List.length_nil]
      rwa [show (i + 1) * 2 + j - (0 + 1 + 1) = i * 2 + j by omega]
end
/-- A slice of shapes in a row of the call's own (from the block B on); what the shapes lead to lies in blocks of S, not in that row. -/
def KOwn (w : World) (B : Nat) (S : Nat → Prop) (v : Value) (ks : List Sh) : Prop :=
  ∃ cells, w.ownsRow B 28 2 v ks.length cells ∧ KCells (SIn w fun b => S b ∧ v.ownBlock ≠ some b) ks cells
theorem KOwn.nil (w : World) (B : Nat) (S : Nat → Prop) : KOwn w B S (.slice none 0 0) [] := ⟨[], World.ownsRow_nil _ _ _ _, .nil⟩
theorem KOwn.form {w : World} {B : Nat} {S : Nat → Prop} {v : Value} {ks : List Sh} (h : KOwn w B S v ks) : ∃ p c, v = .slice p ks.length c := by
  obtain ⟨cells, h1, _⟩ := h
  exact own_slice h1
theorem KOwn.under {w w1 : World} {B : Nat} {S : Nat → Prop} {v : Value} {ks : List Sh} (h : KOwn w B S v ks) (hb : Below w.heap.size w w1) : KOwn w1 B S v ks := by
  obtain ⟨cells, h1, h2⟩ := h
  exact ⟨cells, own_under h1 hb, h2.imp fun x pl po h => h.under hb⟩
theorem KOwn.lt {w : World} {B : Nat} {S : Nat → Prop} {v : Value} {ks : List Sh} (h : KOwn w B S v ks) : ∀ g, v.ownBlock = some g → B ≤ g ∧ g < w.heap.size := by
  obtain ⟨cells, h1, _⟩ := h
  exact fun g hg => h1.lt g hg
theorem KOwn.kin {w : World} {B : Nat} {S T : Nat → Prop} {p : Option Addr} {n c : Nat} {ks : List Sh} (h : KOwn w B S (.slice p n c) ks) (hB : ∀ b, B ≤ b → b < w.heap.size → T b) (hS : ∀ b, S b → b < w.heap.size → T b) : KIn w T ks p := by
  obtain ⟨cells, h1, h2⟩ := h
  rcases h1.2 with ⟨e, h0⟩ | ⟨g, cap, cur, e, hb, hh, hn, _⟩
  · have : ks = [] := List.eq_nil_of_length_eq_zero h0
    subst this
    exact fun i k hi => by simp at hi
  · injection e with e1 e2 e3
    subst e1
    intro i k hi
    obtain ⟨qe, ce, qk, ck, h3, h4⟩ := h2.at_ i k hi
    refine ⟨_, qe, ce, qk, ck, rfl, hB g hb (Array.getElem?_eq_some_iff.1 hh).1, fun j u hu => ?_, h4.more fun b hb _ => hS b hb.1 ‹_›⟩
    rw [add_add]
    exact h1.cells (g := g) rfl _ u (h3 j u hu)
/-- A cell of another block has been written. -/
theorem KOwn.far {w : World} {B : Nat} {S : Nat → Prop} {v : Value} {ks : List Sh} (h : KOwn w B S v ks) (p : Addr) (u : Value) (hp : v.ownBlock ≠ some p.block) (hS : ¬ S p.block) : KOwn (w.setCell p u) B S v ks := by
  obtain ⟨cells, h1, h2⟩ := h
  exact ⟨cells, own_far h1 p u hp, h2.imp fun x pl po h => h.keep fun b hb _ => ⟨hb, Below.heap_setCell _ _ _ _ (fun e => hS (e ▸ hb.1))⟩⟩
/-- A shape has been appended. -/
theorem KOwn.push {w w1 : World} {B : Nat} {S : Nat → Prop} {v v1 : Value} {ks ks' : List Sh} {cells news : List Value} (h1 : w.ownsRow B 28 2 v ks.length cells) (h2 : KCells (SIn w fun b => S b ∧ v.ownBlock ≠ some b) ks cells)
    (hn : KCells (SIn w fun b => S b ∧ v.ownBlock ≠ some b) ks' news)
    (ho : w1.ownsRow B 28 2 v1 (ks.length + ks'.length) (cells ++ news)) (hg : w.grownBy w1 v.ownBlock) (hat : v1.ownBlock = v.ownBlock ∨ v1.ownBlock = some w.heap.size) : KOwn w1 B S v1 (ks ++ ks') := by
  refine ⟨cells ++ news, by rw [List.length_append]; exact ho, (h2.append hn).imp fun x pl po h => h.keep fun b hb hl => ⟨⟨hb.1, ?_⟩, hg.block b hl (fun e => hb.2 e.symm)⟩⟩
  rcases hat with e | e
  · rw [e]; exact hb.2
  · rw [e]; intro e; injection e with e; omega
end Go.Proofs.Ytajcmpafbcpicaa
