/- An entry stored into a row of entries of the call's own; one put between. No program's code in sight. No conditions. -/
import Derived.Test.YtajcmpafbcpicaaNodeMem
import Derived.Laws.OwnMore
set_option linter.unusedVariables false
set_option linter.unusedSimpArgs false
namespace Go.Proofs.Ytajcmpafbcpicaa
open Go.RowKit

abbrev setL7 (cs : List Value) (o : Nat) (c0 c1 c2 c3 c4 c5 c6 : Value) : List Value :=
  ((((((cs.set o c0).set (o + 1) c1).set (o + 2) c2).set (o + 3) c3).set (o + 4) c4).set (o + 5) c5).set (o + 6) c6
theorem setL7_skip (a cs : List Value) (h : a.length = 7) (o : Nat) (c0 c1 c2 c3 c4 c5 c6 : Value) : setL7 (a ++ cs) (o + 7) c0 c1 c2 c3 c4 c5 c6 = a ++ setL7 cs o c0 c1 c2 c3 c4 c5 c6 := by
  have e : ∀ (l : List Value) (j : Nat) (u : Value), (a ++ l).set (o + 7 + j) u = a ++ l.set (o + j) u := fun l j u => by
    rw [List.set_append_right _ _ (by omega), h, show o + 7 + j - 7 = o + j by omega]
  have e0 := e cs 0 c0
  simp only [Nat.add_zero] at e0
  unfold setL7
  rw [e0, e, e, e, e, e, e]
theorem ECells.set {R : V → Option Addr → Option Addr → Prop} {k : Key} {x : V} {pl po : Option Addr} {cl co : Nat} (hx : R x pl po) : ∀ {es : List En} {cs : List Value}, ECells R es cs → ∀ i, i < es.length →
    ECells R (es.set i (k, x)) (setL7 cs (i * 7) (.string k) (.int .i64 x.kind) (.bool x.bool) (.int .i64 x.num) (.string x.text) (.slice pl x.list.length cl) (.slice po x.obj.length co))
  | _, _, .nil, i, h => by simp at h
  | _, _, .cons (k := k0) (x := x0) (pl := pl0) (po := po0) (cl := cl0) (co := co0) (es := es) (cs := cs) hx0 h, i, hi => by
    match i, hi with
    | 0, _ => exact ECells.cons (k := k) (x := x) (pl := pl) (po := po) (cl := cl) (co := co) hx h
    | i + 1, hi =>
      have := ECells.set (k := k) (x := x) (cl := cl) (co := co) hx h i (by simpa using hi)
      rw [List.set_cons_succ, show (i + 1) * 7 = i * 7 + 7 by omega, setL7_skip _ _ (by simp)]
      exact ECells.cons hx0 this

abbrev set7 (w : World) (g o : Nat) (c0 c1 c2 c3 c4 c5 c6 : Value) : World :=
  ((((((w.setCell ⟨g, o, none⟩ c0).setCell ⟨g, o + 1, none⟩ c1).setCell ⟨g, o + 2, none⟩ c2).setCell ⟨g, o + 3, none⟩ c3).setCell ⟨g, o + 4, none⟩ c4).setCell ⟨g, o + 5, none⟩ c5).setCell ⟨g, o + 6, none⟩ c6
theorem set7_block {w : World} {g o : Nat} {c0 c1 c2 c3 c4 c5 c6 : Value} {k : Nat} (hk : k ≠ g) : (set7 w g o c0 c1 c2 c3 c4 c5 c6).heap[k]? = w.heap[k]? := by
  unfold set7
  repeat rw [Below.heap_setCell _ _ _ _ hk]
theorem EOwn.store {w : World} {B : Nat} {S : Nat → Prop} {g n c : Nat} {es : List En} {k : Key} {x : V} {pl po : Option Addr} {cl co i : Nat} (h : EOwn w B S (.slice (some ⟨g, 0, none⟩) n c) es) (hn : n = es.length) (hi : i < es.length) (hx : VIn w (fun b => S b ∧ b ≠ g) x pl po) :
    EOwn (set7 w g (i * 7) (.string k) (.int .i64 x.kind) (.bool x.bool) (.int .i64 x.num) (.string x.text) (.slice pl x.list.length cl) (.slice po x.obj.length co)) B S (.slice (some ⟨g, 0, none⟩) n c) (es.set i (k, x)) := by
  subst hn
  obtain ⟨cells, h1, h2⟩ := h
  have h7 := (((((((h1.stored (i * 7) (.string k)).1.stored (i * 7 + 1) (.int .i64 x.kind)).1.stored (i * 7 + 2) (.bool x.bool)).1.stored (i * 7 + 3) (.int .i64 x.num)).1.stored (i * 7 + 4) (.string x.text)).1.stored (i * 7 + 5) (.slice pl x.list.length cl)).1.stored (i * 7 + 6) (.slice po x.obj.length co)).1
  refine ⟨setL7 cells (i * 7) _ _ _ _ _ _ _, by rw [List.length_set]; exact h7, ?_⟩
  have h3 := ECells.set (k := k) (x := x) (pl := pl) (po := po) (cl := cl) (co := co) (R := VIn w fun b => S b ∧ (Value.slice (some ⟨g, 0, none⟩) es.length c).ownBlock ≠ some b)
    (hx.more fun b hb _ => ⟨hb.1, fun e => hb.2 (by have : g = b := by simpa [Value.ownBlock] using e
                                                    exact this.symm)⟩) h2 i hi
  exact h3.imp fun x pl po hv => hv.keep fun b hb _ => ⟨hb, set7_block (fun e => hb.2 (by rw [e]; rfl))⟩
/-- Entries with one put between. -/
theorem ECells.ins {R : V → Option Addr → Option Addr → Prop} {k : Key} {x : V} {pl po : Option Addr} {cl co : Nat} (hx : R x pl po) : ∀ {es : List En} {cs : List Value}, ECells R es cs → ∀ i, i ≤ es.length →
    ECells R (es.take i ++ (k, x) :: es.drop i) (cs.take (i * 7) ++ (ecells k x pl cl po co ++ cs.drop (i * 7))) := by
  intro es cs h i hi
  have e : es = es.take i ++ es.drop i := (List.take_append_drop i es).symm
  rw [e] at h
  obtain ⟨c1, c2, rfl, h1, h2⟩ := h.split
  have hl : c1.length = i * 7 := by rw [h1.length, List.length_take, Nat.min_eq_left hi]
  rw [← hl, List.take_left, List.drop_left]
  exact h1.append (.cons hx h2)
end Go.Proofs.Ytajcmpafbcpicaa
