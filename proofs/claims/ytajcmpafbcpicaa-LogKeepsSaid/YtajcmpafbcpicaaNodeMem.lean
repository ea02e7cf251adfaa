/- How rows of entries, shapes and nodes lie in memory. No program in sight. No conditions. -/
import Derived.Test.YtajcmpafbcpicaaMem
import Derived.Test.YtajcmpafbcpicaaShape
import Derived.Maps.AppendAt
import Derived.Deep.AppendLies
import Derived.RegionTactic
import Derived.OwnWalk
set_option linter.unusedVariables false
set_option linter.unusedSimpArgs false
namespace Go.Proofs.Ytajcmpafbcpicaa
open Go.RowKit

/-- Entries as the cells of a row, one behind the other. -/
inductive ECells (R : V → Option Addr → Option Addr → Prop) : List En → List Value → Prop
  | nil : ECells R [] []
  | cons {k : Key} {x : V} {pl po : Option Addr} {cl co : Nat} {es : List En} {cs : List Value} (hx : R x pl po) (h : ECells R es cs) : ECells R ((k, x) :: es) (ecells k x pl cl po co ++ cs)

section
variable {R R' : V → Option Addr → Option Addr → Prop}
theorem ECells.length {es : List En} {cs : List Value} (h : ECells R es cs) : cs.length = es.length * 7 := by
  induction h with
  | nil => rfl
  | cons hx h ih => simp [ih]; omega
theorem ECells.one {es : List En} {cs : List Value} (h : ECells R es cs) : ∀ u ∈ cs, u.oneCell' = true := by
  induction h with
  | nil => intro u hu; cases hu
  | cons hx h ih =>
    intro u hu
    rcases List.mem_append.1 hu with hu | hu
    · simp at hu
      rcases hu with rfl | rfl | rfl | rfl | rfl | rfl | rfl <;> rfl
    · exact ih u hu
theorem ECells.imp {es : List En} {cs : List Value} (h : ECells R es cs) (hR : ∀ x pl po, R x pl po → R' x pl po) : ECells R' es cs := by
  induction h with
  | nil => exact .nil
  | cons hx h ih => exact .cons (hR _ _ _ hx) ih
theorem ECells.append {es es' : List En} {cs cs' : List Value} (h : ECells R es cs) (h' : ECells R es' cs') : ECells R (es ++ es') (cs ++ cs') := by
  induction h with
  | nil => exact h'
  | cons hx h ih => rw [List.append_assoc]; exact .cons hx ih
theorem ECells.split : ∀ {es es' : List En} {cs : List Value}, ECells R (es ++ es') cs → ∃ c1 c2, cs = c1 ++ c2 ∧ ECells R es c1 ∧ ECells R es' c2
  | [], es', cs, h => ⟨[], cs, rfl, .nil, h⟩
  | e :: es, es', cs, h => by
    cases h with
    | cons hx h =>
      obtain ⟨c1, c2, rfl, h1, h2⟩ := h.split
      exact ⟨_, c2, (List.append_assoc ..).symm, .cons hx h1, h2⟩
theorem ECells.at_ : ∀ {es : List En} {cs : List Value}, ECells R es cs → ∀ i (e : En), es[i]? = some e → ∃ pl cl po co, (∀ j u, (ecells e.1 e.2 pl cl po co)[j]? = some u → cs[i * 7 + j]? = some u) ∧ R e.2 pl po
  | _, _, .nil, i, e, he => by simp at he
  | _, _, .cons (k := k) (x := x) (pl := pl) (po := po) (cl := cl) (co := co) (es := es) (cs := cs) hx h, i, e, he => by
    match i, he with
    | 0, he =>
      simp at he; subst he
      refine ⟨pl, cl, po, co, fun j u hu => ?_, hx⟩
      have hj : j < 7 := (List.getElem?_eq_some_iff.1 hu).1
      rw [List.getElem?_append_left (by simp; omega)]
      simpa using hu
    | i + 1, he =>
      obtain ⟨pl', cl', po', co', hcc, hvv⟩ := h.at_ i e (by simpa using he)
      refine ⟨pl', cl', po', co', fun j u hu => ?_, hvv⟩
      rw [List.getElem?_append_right (by simp; omega)]
      have := hcc j u hu
      simp only [List.length_cons, List.length_nil]
      rwa [show (i + 1) * 7 + j - (0 + 1 + 1 + 1 + 1 + 1 + 1 + 1) = i * 7 + j by omega]
end
theorem EIn.ecells_ {w : World} {S : Nat → Prop} : ∀ {l : List En} {a : Addr}, EIn w S l (some a) → ∃ cells, Cells w a cells ∧ ECells (VIn w S) l cells
  | [], a, _ => ⟨[], fun j u h => by simp at h, .nil⟩
  | x :: l, a, h => by
    obtain ⟨a', pl, cl, po, co, ha, hS, hc, hv⟩ := h 0 x rfl
    injection ha with ha
    subst ha
    have h' : EIn w S l (some (a.add 7)) := fun i y hy => by
      obtain ⟨a', pl, cl, po, co, ha, hS, hc, hv⟩ := h (i + 1) y (by simpa using hy)
      injection ha with ha
      subst ha
      refine ⟨_, pl, cl, po, co, rfl, by rw [block_add]; exact hS, ?_, hv⟩
      rw [add_add]
      rwa [show 7 + i * 7 = (i + 1) * 7 by omega]
    obtain ⟨cells, h1, h2⟩ := h'.ecells_
    exact ⟨ecells x.1 x.2 pl cl po co ++ cells, Cells.append (by simpa [Addr.add] using hc) h1, .cons hv h2⟩
theorem EIn.of_ecells {w : World} {S : Nat → Prop} {l : List En} {a : Addr} {cells : List Value} (hc : Cells w a cells) (he : ECells (VIn w S) l cells) (hS : S a.block) : EIn w S l (some a) := by
  intro i ky hk
  obtain ⟨pl, cl, po, co, h1, h2⟩ := he.at_ i ky hk
  exact ⟨a, pl, cl, po, co, rfl, hS, fun j u hu => by rw [add_add]; exact hc _ u (h1 j u hu), h2⟩
/-- The cells of a list of entries, wherever its slice points to. -/
theorem EIn.source {w : World} {S : Nat → Prop} {l : List En} {p : Option Addr} (h : EIn w S l p) : ∃ cells, (∀ a, p = some a → Cells w a cells) ∧ ECells (VIn w S) l cells ∧ (p = none → l = []) := by
  cases p with
  | some a =>
    obtain ⟨cells, h1, h2⟩ := h.ecells_
    exact ⟨cells, fun a' e => by cases e; exact h1, h2, fun e => by cases e⟩
  | none =>
    have : l = [] := by
      cases l with
      | nil => rfl
      | cons x l => obtain ⟨a, _, _, _, _, e, _⟩ := h 0 x rfl; cases e
    subst this
    exact ⟨[], fun a e => (by cases e), .nil, fun _ => rfl⟩

/-- A slice of entries in a row of the call's own (from the block B on); what the entries lead to lies in blocks of S, not in that row. -/
def EOwn (w : World) (B : Nat) (S : Nat → Prop) (v : Value) (es : List En) : Prop :=
  ∃ cells, w.ownsRow B 44 7 v es.length cells ∧ ECells (VIn w fun b => S b ∧ v.ownBlock ≠ some b) es cells
theorem EOwn.nil (w : World) (B : Nat) (S : Nat → Prop) : EOwn w B S (.slice none 0 0) [] := ⟨[], World.ownsRow_nil _ _ _ _, .nil⟩
theorem EOwn.form {w : World} {B : Nat} {S : Nat → Prop} {v : Value} {es : List En} (h : EOwn w B S v es) : ∃ p c, v = .slice p es.length c := by
  obtain ⟨cells, h1, _⟩ := h
  exact own_slice h1
theorem EOwn.under {w w1 : World} {B : Nat} {S : Nat → Prop} {v : Value} {es : List En} (h : EOwn w B S v es) (hb : Below w.heap.size w w1) : EOwn w1 B S v es := by
  obtain ⟨cells, h1, h2⟩ := h
  exact ⟨cells, own_under h1 hb, h2.imp fun x pl po h => h.under hb⟩
theorem EOwn.more {w : World} {B : Nat} {S S' : Nat → Prop} {v : Value} {es : List En} (h : EOwn w B S v es) (hs : ∀ b, S b → b < w.heap.size → S' b) : EOwn w B S' v es := by
  obtain ⟨cells, h1, h2⟩ := h
  exact ⟨cells, h1, h2.imp fun x pl po h => h.more fun b hb hl => ⟨hs b hb.1 hl, hb.2⟩⟩
theorem EOwn.ein {w : World} {B : Nat} {S T : Nat → Prop} {p : Option Addr} {n c : Nat} {es : List En} (h : EOwn w B S (.slice p n c) es) (hB : ∀ b, B ≤ b → b < w.heap.size → T b) (hS : ∀ b, S b → b < w.heap.size → T b) : EIn w T es p := by
  obtain ⟨cells, h1, h2⟩ := h
  rcases h1.2 with ⟨e, h0⟩ | ⟨g, cap, cur, e, hb, hh, hn, _⟩
  · have : es = [] := List.eq_nil_of_length_eq_zero h0
    subst this
    exact EIn.nil _ _ _
  · injection e with e1 e2 e3
    subst e1
    exact EIn.of_ecells (h1.cells (g := g) rfl) (h2.imp fun x pl po h => h.more fun b hb hl => hS b hb.1 hl) (hB g hb (Array.getElem?_eq_some_iff.1 hh).1)
/-- An entry has been appended. -/
theorem EOwn.push {w w1 : World} {B : Nat} {S : Nat → Prop} {v v1 : Value} {es es' : List En} {cells news : List Value} (h1 : w.ownsRow B 44 7 v es.length cells) (h2 : ECells (VIn w fun b => S b ∧ v.ownBlock ≠ some b) es cells)
    (hn : ECells (VIn w fun b => S b ∧ v.ownBlock ≠ some b) es' news)
    (ho : w1.ownsRow B 44 7 v1 (es.length + es'.length) (cells ++ news)) (hg : w.grownBy w1 v.ownBlock) (hat : v1.ownBlock = v.ownBlock ∨ v1.ownBlock = some w.heap.size) : EOwn w1 B S v1 (es ++ es') := by
  refine ⟨cells ++ news, by rw [List.length_append]; exact ho, (h2.append hn).imp fun x pl po h => h.keep fun b hb hl => ⟨⟨hb.1, ?_⟩, hg.block b hl (fun e => hb.2 e.symm)⟩⟩
  rcases hat with e | e
  · rw [e]; exact hb.2
  · rw [e]; intro e; injection e with e; omega

/-- A shape's two lists lie in memory. -/
inductive SIn (w : World) (S : Nat → Prop) : Sh → Option Addr → Option Addr → Prop
  | mk {es : List En} {kids : List Sh} {pe pk : Option Addr} (qe qk : Nat → Option Addr) (ce ck : Nat → Nat) (he : EIn w S es pe)
      (hk : ∀ i k, kids[i]? = some k → ∃ a, pk = some a ∧ S a.block ∧ Cells w (a.add (i * 2)) [.slice (qe i) k.es.length (ce i), .slice (qk i) k.kids.length (ck i)])
      (hk' : ∀ i k, kids[i]? = some k → SIn w S k (qe i) (qk i)) : SIn w S (.mk es kids) pe pk
def KIn (w : World) (S : Nat → Prop) (l : List Sh) (p : Option Addr) : Prop :=
  ∀ i k, l[i]? = some k → ∃ a qe ce qk ck, p = some a ∧ S a.block ∧ Cells w (a.add (i * 2)) [.slice qe k.es.length ce, .slice qk k.kids.length ck] ∧ SIn w S k qe qk
theorem SIn.ents {w : World} {S : Nat → Prop} {s : Sh} {pe pk : Option Addr} (h : SIn w S s pe pk) : EIn w S s.es pe := by
  cases h with | mk qe qk ce ck he hk hk' => exact he
theorem SIn.kids_ {w : World} {S : Nat → Prop} {s : Sh} {pe pk : Option Addr} (h : SIn w S s pe pk) : KIn w S s.kids pk := by
  cases h with
  | mk qe qk ce ck he hk hk' =>
    intro i k hi
    obtain ⟨a, h1, h2, h3⟩ := hk i k hi
    exact ⟨a, _, _, _, _, h1, h2, h3, hk' i k hi⟩
theorem SIn.of {w : World} {S : Nat → Prop} {s : Sh} {pe pk : Option Addr} (h1 : EIn w S s.es pe) (h2 : KIn w S s.kids pk) : SIn w S s pe pk := by
  have hl : ∀ i, ∃ q : Option Addr × Nat × Option Addr × Nat, ∀ k, s.kids[i]? = some k → ∃ a, pk = some a ∧ S a.block ∧ Cells w (a.add (i * 2)) [.slice q.1 k.es.length q.2.1, .slice q.2.2.1 k.kids.length q.2.2.2] ∧ SIn w S k q.1 q.2.2.1 := by
    intro i
    cases hy : s.kids[i]? with
    | none => exact ⟨(none, 0, none, 0), fun y e => by cases e⟩
    | some y =>
      obtain ⟨a, p1, c1, p2, c2, e1, e2, e3, e4⟩ := h2 i y hy
      exact ⟨(p1, c1, p2, c2), fun z e => by cases e; exact ⟨a, e1, e2, e3, e4⟩⟩
  obtain ⟨es, kids⟩ := s
  refine SIn.mk (fun i => (Classical.choose (hl i)).1) (fun i => (Classical.choose (hl i)).2.2.1) (fun i => (Classical.choose (hl i)).2.1) (fun i => (Classical.choose (hl i)).2.2.2) h1 ?_ ?_
  · intro i y hy
    obtain ⟨a, e1, e2, e3, _⟩ := Classical.choose_spec (hl i) y hy
    exact ⟨a, e1, e2, e3⟩
  · intro i y hy
    obtain ⟨_, _, _, _, e4⟩ := Classical.choose_spec (hl i) y hy
    exact e4
theorem SIn.keep {w w' : World} {S S' : Nat → Prop} {s : Sh} {pe pk : Option Addr} (h : SIn w S s pe pk) (hA : ∀ b, S b → b < w.heap.size → S' b ∧ w'.heap[b]? = w.heap[b]?) : SIn w' S' s pe pk := by
  induction h with
  | mk qe qk ce ck he hk hk' ih =>
    refine SIn.mk qe qk ce ck (he.keep hA) ?_ ih
    intro i y hy
    obtain ⟨a, h1, h2, h3⟩ := hk i y hy
    have hlt := h3.lt
    rw [block_add] at hlt
    exact ⟨a, h1, (hA _ h2 hlt).1, h3.keep (S := S) (fun b hb hl => (hA b hb hl).2) (by rw [block_add]; exact h2)⟩
theorem SIn.under {w w' : World} {S : Nat → Prop} {s : Sh} {pe pk : Option Addr} (h : SIn w S s pe pk) (hb : Below w.heap.size w w') : SIn w' S s pe pk := h.keep fun b hS hl => ⟨hS, hb.block b hl⟩
theorem SIn.more {w : World} {S S' : Nat → Prop} {s : Sh} {pe pk : Option Addr} (h : SIn w S s pe pk) (hs : ∀ b, S b → b < w.heap.size → S' b) : SIn w S' s pe pk := h.keep fun b hS hl => ⟨hs b hS hl, rfl⟩
theorem SIn.drew {w : World} {S : Nat → Prop} {s : Sh} {pe pk : Option Addr} (h : SIn w S s pe pk) : SIn w.drew S s pe pk := h.keep fun b hS hl => ⟨hS, rfl⟩
theorem SIn.drewN {w : World} {S : Nat → Prop} {s : Sh} {pe pk : Option Addr} (h : SIn w S s pe pk) (n : Nat) : SIn (w.drewN n) S s pe pk := h.keep fun b hS hl => ⟨hS, rfl⟩
theorem KIn.keep {w w' : World} {S S' : Nat → Prop} {l : List Sh} {p : Option Addr} (h : KIn w S l p) (hA : ∀ b, S b → b < w.heap.size → S' b ∧ w'.heap[b]? = w.heap[b]?) : KIn w' S' l p := by
  intro i y hy
  obtain ⟨a, qe, ce, qk, ck, h1, h2, h3, h4⟩ := h i y hy
  have hlt := h3.lt
  rw [block_add] at hlt
  exact ⟨a, qe, ce, qk, ck, h1, (hA _ h2 hlt).1, h3.keep (S := S) (fun b hb hl => (hA b hb hl).2) (by rw [block_add]; exact h2), h4.keep hA⟩
theorem KIn.under {w w' : World} {S : Nat → Prop} {l : List Sh} {p : Option Addr} (h : KIn w S l p) (hb : Below w.heap.size w w') : KIn w' S l p := h.keep fun b hS hl => ⟨hS, hb.block b hl⟩

/-- A pointer to a node. -/
abbrev nptr (n : Nd) : Value := .pointer (some ⟨n.addr, 0, none⟩)
/-- A node lies in memory, with all that it leads to, in blocks of S. -/
inductive NIn (w : World) (S : Nat → Prop) : Nd → Prop
  | mk {a : Nat} {es : List En} {kids : List Nd} (pe pk : Option Addr) (ce ck : Nat) (ha : S a)
      (hc : Cells w ⟨a, 0, none⟩ [.slice pe es.length ce, .slice pk kids.length ck, .int .i64 ((Nd.mk a es kids).cnt : Nat), .int .i64 ((Nd.mk a es kids).hgt : Nat)])
      (hb : (Nd.mk a es kids).cnt ≤ 1099511627776 ∧ (Nd.mk a es kids).hgt ≤ 1099511627776) (hcap : es.length ≤ ce ∧ kids.length ≤ ck) (he : EIn w S es pe)
      (hk : ∀ (i : Nat) (k : Nd), kids[i]? = some k → ∃ ad, pk = some ad ∧ S ad.block ∧ w.cell? (ad.add i) = some (nptr k)) (hk' : ∀ (i : Nat) (k : Nd), kids[i]? = some k → NIn w S k) : NIn w S (.mk a es kids)
theorem NIn.keep {w w' : World} {S S' : Nat → Prop} {n : Nd} (h : NIn w S n) (hA : ∀ b, S b → b < w.heap.size → S' b ∧ w'.heap[b]? = w.heap[b]?) : NIn w' S' n := by
  induction h with
  | mk pe pk ce ck ha hc hb hcap he hk hk' ih =>
    have hlt := hc.lt
    refine NIn.mk pe pk ce ck (hA _ ha hlt).1 (hc.keep (S := S) (fun b hb hl => (hA b hb hl).2) ha) hb hcap (he.keep hA) ?_ ih
    intro i k hi
    obtain ⟨ad, h1, h2, h3⟩ := hk i k hi
    have hl := World.block_lt_of_cell? w _ h3
    rw [block_add] at hl
    exact ⟨ad, h1, (hA _ h2 hl).1, Agree.cell (S := S) (fun b hb hl => (hA b hb hl).2) (by rw [block_add]; exact h2) h3⟩
theorem NIn.under {w w' : World} {S : Nat → Prop} {n : Nd} (h : NIn w S n) (hb : Below w.heap.size w w') : NIn w' S n := h.keep fun b hS hl => ⟨hS, hb.block b hl⟩
theorem NIn.more {w : World} {S S' : Nat → Prop} {n : Nd} (h : NIn w S n) (hs : ∀ b, S b → b < w.heap.size → S' b) : NIn w S' n := h.keep fun b hS hl => ⟨hs b hS hl, rfl⟩
theorem NIn.drew {w : World} {S : Nat → Prop} {n : Nd} (h : NIn w S n) : NIn w.drew S n := h.keep fun b hS hl => ⟨hS, rfl⟩
theorem NIn.drewN {w : World} {S : Nat → Prop} {n : Nd} (h : NIn w S n) (k : Nat) : NIn (w.drewN k) S n := h.keep fun b hS hl => ⟨hS, rfl⟩
/-- What is read of a node. -/
theorem NIn.open_ {w : World} {S : Nat → Prop} {n : Nd} (h : NIn w S n) : ∃ pe pk ce ck, S n.addr ∧ w.cell? ⟨n.addr, 0, none⟩ = some (.slice pe n.es.length ce) ∧ w.cell? ⟨n.addr, 1, none⟩ = some (.slice pk n.kids.length ck) ∧
    w.cell? ⟨n.addr, 2, none⟩ = some (.int .i64 (n.cnt : Nat)) ∧ w.cell? ⟨n.addr, 3, none⟩ = some (.int .i64 (n.hgt : Nat)) ∧ (n.cnt ≤ 1099511627776 ∧ n.hgt ≤ 1099511627776 ∧ n.es.length ≤ ce ∧ n.kids.length ≤ ck) ∧ EIn w S n.es pe ∧
    (∀ (i : Nat) (k : Nd), n.kids[i]? = some k → ∃ ad, pk = some ad ∧ S ad.block ∧ w.cell? (ad.add i) = some (nptr k)) ∧ ∀ (i : Nat) (k : Nd), n.kids[i]? = some k → NIn w S k := by
  cases h with
  | mk pe pk ce ck ha hc hb hcap he hk hk' =>
    refine ⟨pe, pk, ce, ck, ha, ?_, ?_, ?_, ?_, ⟨hb.1, hb.2, hcap.1, hcap.2⟩, he, hk, hk'⟩
    · have h := hc 0 _ rfl
      rw [add_lit] at h
      exact h
    · have h := hc 1 _ rfl
      rw [add_lit] at h
      exact h
    · have h := hc 2 _ rfl
      rw [add_lit] at h
      exact h
    · have h := hc 3 _ rfl
      rw [add_lit] at h
      exact h
theorem NIn.lt {w : World} {S : Nat → Prop} {n : Nd} (h : NIn w S n) : n.addr < w.heap.size := by
  obtain ⟨pe, pk, ce, ck, _, h1, _⟩ := h.open_
  exact World.block_lt_of_cell? w _ h1

/-- None of a shape's lists is too long for memory. -/
inductive Sh.Fits : Sh → Prop
  | mk {es : List En} {kids : List Sh} (he : es.length * 104 ≤ 140737488355328) (hk : kids.length * 48 ≤ 140737488355328) (hv : ∀ e, e ∈ es → e.2.Fits ∧ e.1.size ≤ 140737488355328) (hks : ∀ k, k ∈ kids → Sh.Fits k) : Sh.Fits (.mk es kids)
theorem Sh.Fits.ents {s : Sh} (h : s.Fits) : s.es.length * 104 ≤ 140737488355328 ∧ ∀ e ∈ s.es, e.2.Fits := by
  cases h with | mk he hk hv hks => exact ⟨he, fun e h => (hv e h).1⟩
theorem Sh.Fits.keys {s : Sh} (h : s.Fits) : ∀ e ∈ s.es, e.1.size ≤ 140737488355328 := by
  cases h with | mk he hk hv hks => exact fun e h => (hv e h).2
theorem Sh.Fits.kids_ {s : Sh} (h : s.Fits) : s.kids.length * 48 ≤ 140737488355328 ∧ ∀ k ∈ s.kids, k.Fits := by
  cases h with | mk he hk hv hks => exact ⟨hk, fun e h => hks e h⟩
abbrev Nd.Fits (n : Nd) : Prop := n.sh.Fits
theorem Nd.Fits.ents {n : Nd} (h : n.Fits) : n.es.length * 104 ≤ 140737488355328 ∧ ∀ e ∈ n.es, e.2.Fits := by
  have := Sh.Fits.ents h
  rwa [Nd.sh_es] at this
theorem Nd.Fits.kid {n k : Nd} (h : n.Fits) (hk : k ∈ n.kids) : k.Fits := by
  have := (Sh.Fits.kids_ h).2 k.sh (by rw [Nd.sh_kids]; exact List.mem_map_of_mem hk)
  exact this
theorem EOwn.cap_ {w : World} {B : Nat} {S : Nat → Prop} {p : Option Addr} {n c : Nat} {es : List En} (h : EOwn w B S (.slice p n c) es) : es.length ≤ c := by
  obtain ⟨cells, h1, _⟩ := h
  rcases h1.2 with ⟨e, h0⟩ | ⟨g, cap, cur, e, hb, hh, hn, _⟩
  · omega
  · injection e with e1 e2 e3
    omega
end Go.Proofs.Ytajcmpafbcpicaa
