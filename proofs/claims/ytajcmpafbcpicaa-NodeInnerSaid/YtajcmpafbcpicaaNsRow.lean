/- A list of nodes that a call gathers in a row of its own. No program's code in sight. No conditions. -/
import Derived.Test.YtajcmpafbcpicaaOf
set_option linter.unusedVariables false
set_option linter.unusedSimpArgs false
namespace Go.Proofs.Ytajcmpafbcpicaa
open Go.RowKit

/-- Nothing is appended to nothing. -/
theorem run_append_zero {P : Program} {w : World} {t ty e : TypeId} {i : TypeInfo} (ht : P.underlying t = some (.slice e)) (hi : P.info? e = some i) (p : Option Addr) (c : Nat) :
    (Builtin.append_ #[t, t] ty #[.slice none 0 0, .slice p 0 c]).run P w = .ok (.slice none 0 0) w := by
  cases p with
  | none => simp [Builtin.append_, run_underlying ht, sizeOf, typeInfo, hi, Builtin.lenOf, Builtin.firstCells]
  | some a => simp [Builtin.append_, run_underlying ht, sizeOf, typeInfo, hi, Builtin.lenOf, Builtin.firstCells, loadCells, loadCellsFrom]

theorem wpList_append_zero {P : Program} {ops : Array Oper} {rest : List Oper} {o : Oper} {a : Act} {Q : Exit → Act → World → Prop} {w : World} {t e : TypeId} {i : TypeInfo} (ht : P.underlying t = some (.slice e)) (hi : P.info? e = some i)
    (hgd : o.guard = none) (s x : Operand) (ho : o.op = .call { callee := .builtin .append, args := #[s, x], argTypes := #[t, t] }) {p : Option Addr} {c : Nat} (hs : a.eval s = .slice none 0 0) (hx : a.eval x = .slice p 0 c)
    (h : wpList P ops Q rest (a.put o.dst (.slice none 0 0)) w) : wpList P ops Q (o :: rest) a w := by
  refine wpList_plain hgd fun K hK => ?_
  have hrun := run_append_zero (P := P) (w := w) (ty := o.type) ht hi p c
  unfold Oper.wp execOp
  simp only [ho, resolve, invoke, builtin, Sem.run_bind, Sem.run_pure, Result.andThen_ok, List.map_toArray, List.map_cons, List.map_nil, hs, hx, hrun]
  exact hK _ _ h

structure NsInv (B : Nat) (ks : List Sh) (vk : Value) (ns : List Nd) (wr : World) : Prop where
  row : wr.ownsRow B 30 1 vk ns.length (ns.map nptr)
  ns_ : ns.map Nd.sh = ks.take ns.length
  nin : ∀ n ∈ ns, NIn wr (fun b => B ≤ b ∧ vk.ownBlock ≠ some b) n
  may : ∀ n ∈ ns, n.ok

theorem NsInv.nil (B : Nat) (ks : List Sh) (w : World) : NsInv B ks (.slice none 0 0) [] w := ⟨World.ownsRow_nil _ _ _ _, by simp, fun n hn => by simp at hn, fun n hn => by simp at hn⟩

theorem NsInv.push {B : Nat} {ks : List Sh} {po : Option Addr} {co : Nat} {ns : List Nd} {wr w1 w2 : World} {n : Nd} {k : Sh} {v2 : Value} (h : NsInv B ks (.slice po ns.length co) ns wr) (hk : ks[ns.length]? = some k) (hB : B ≤ wr.heap.size)
    (hb1 : Below wr.heap.size wr w1) (hsh : n.sh = k) (hm : k.may = true) (hn : NIn w1 (fun b => wr.heap.size ≤ b) n) (hown2 : w2.ownsRow B 30 1 v2 (ns.length + 1) (ns.map nptr ++ [nptr n]))
    (hgr : (w1.alloc (.cells #[nptr n] 30)).grownBy w2 (.slice po ns.length co : Value).ownBlock)
    (hat : v2.ownBlock = (Value.slice po ns.length co).ownBlock ∨ v2.ownBlock = some (w1.alloc (.cells #[nptr n] 30)).heap.size) :
    NsInv B ks v2 (ns ++ [n]) w2 ∧ (∀ A : World, Below A.heap.size A wr → A.heap.size ≤ B → Below A.heap.size A w2) := by
  have hown : ∀ g, (Value.slice po ns.length co).ownBlock = some g → B ≤ g ∧ g < wr.heap.size := fun g hg => h.row.lt g hg
  have hb12 : Below wr.heap.size wr (w1.alloc (.cells #[nptr n] 30)) := hb1.alloc hb1.size _
  have hs1 := hb1.size
  have hs12 := hb12.size
  have hkeep : ∀ b, b < wr.heap.size → (Value.slice po ns.length co).ownBlock ≠ some b → w2.heap[b]? = wr.heap[b]? := fun b hl hne =>
    (hgr.block b (by omega) (fun e => hne e.symm)).trans (hb12.block b hl)
  refine ⟨⟨by simpa using hown2, ?_, ?_, ?_⟩, ?_⟩
  · have := h.ns_
    rw [List.length_append, List.map_append, this, List.length_singleton, List.take_add_one, hk]
    simp [hsh]
  · intro m hm
    have hnew : ∀ b, b < w1.heap.size → (Value.slice po ns.length co).ownBlock ≠ some b → v2.ownBlock ≠ some b := fun b hl hne => by
      rcases hat with e | e
      · rw [e]; exact hne
      · rw [e]; intro e; injection e with e; simp at e; omega
    rcases List.mem_append.1 hm with hm | hm
    · exact (h.nin m hm).keep fun b hS hl => ⟨⟨hS.1, hnew b (by omega) hS.2⟩, hkeep b hl hS.2⟩
    · simp at hm
      subst hm
      refine hn.keep fun b hS hl => ?_
      have hne : (Value.slice po ns.length co).ownBlock ≠ some b := fun e => by
        have := hown b e
        omega
      refine ⟨⟨by omega, hnew b hl hne⟩, ?_⟩
      rw [hgr.block b (by simp; omega) (fun e => hne e.symm)]
      exact heap_alloc_old _ _ hl
  · intro m hm'
    rcases List.mem_append.1 hm' with hm' | hm'
    · exact h.may m hm'
    · simp at hm'
      subst hm'
      show m.sh.may = true
      rw [hsh]; exact hm
  · intro A hA hAB
    exact (below_then hA hA.size hb12).grown hgr (Nat.le_trans hA.size hs12) fun g hg => by have := hown g hg; omega
end Go.Proofs.Ytajcmpafbcpicaa
