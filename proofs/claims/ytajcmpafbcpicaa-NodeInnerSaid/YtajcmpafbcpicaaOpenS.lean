/- How an argument that is a list of shapes is opened. No conditions. -/
import Derived.Test.YtajcmpafbcpicaaOpen
set_option linter.unusedVariables false
set_option linter.unusedSimpArgs false
namespace Go.Proofs.Ytajcmpafbcpicaa
open Go.RowKit
section
variable {H : Type} {enc : TypeId × Value → H} {w : World} {base : Nat} {sp : Nat → Bool} {held : Bool}
theorem open_shapes {fuel : Nat} {cs : List Value} {x : DataW H × List MemPlace} (h : DataW.trod enc Try.prog w base sp held fuel 22 cs = some x) (hx : Light 22 x.1) :
    ∃ (l : List Sh) (p : Option Addr) (c : Nat), cs = [.slice p l.length c] ∧ KIn w (fun _ => True) l p ∧ l.length ≤ c ∧ l.length * 48 ≤ 140737488355328 ∧ ∀ s ∈ l, s.Fits := by
  obtain ⟨pk, ll, cl, n1, hn1, e1, hcap, hw4, he4⟩ := open_elems Try.underlying22 h hx
  rw [bytes28, reach_eq] at hw4
  rw [cells28] at he4
  obtain ⟨K, hK, hKp⟩ := mk_list (p := fun i (s : Sh) => ∃ a qe ce' qk ck', pk = some a ∧ Cells w (a.add (i * 2)) [.slice qe s.es.length ce', .slice qk s.kids.length ck'] ∧ SIn w (fun _ => True) s qe qk ∧ s.Fits) (n := ll) fun i hi => by
    obtain ⟨a, cs', y, ha, hc, hy, ly⟩ := he4 i hi
    obtain ⟨s, p1, k1, p2, k2, rfl, hs, hsf⟩ := open_shape n1 cs' y hy ly
    exact ⟨s, a, _, _, _, _, ha, cells_of hc, hs, hsf⟩
  subst hK
  refine ⟨K, pk, cl, e1, fun i k hi => ?_, hcap, by omega, fun s hs => ?_⟩
  · obtain ⟨a, qe, ce', qk, ck', ha, hc, hs, hsf⟩ := hKp i k hi
    exact ⟨a, qe, ce', qk, ck', ha, trivial, hc, hs⟩
  · obtain ⟨i, hi⟩ := List.mem_iff_getElem?.1 hs
    obtain ⟨a, qe, ce', qk, ck', ha, hc, hs, hsf⟩ := hKp i s hi
    exact hsf
end
end Go.Proofs.Ytajcmpafbcpicaa
