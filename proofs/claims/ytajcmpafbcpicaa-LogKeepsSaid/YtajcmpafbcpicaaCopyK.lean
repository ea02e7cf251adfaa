/- copy of elements of so many cells each, into a row that is known whole. No program in sight. No conditions. -/
import Derived.Laws.CopyOwn
import Derived.Laws.CopyRow
import Derived.Below
import Derived.Lib.Hide
import Derived.Lib.AppendZerosOnto
import Derived.Maps.AppendAt
set_option linter.unusedVariables false
set_option linter.unusedSimpArgs false
namespace Go.Proofs.Ytajcmpafbcpicaa
open Go.RowKit

theorem run_copy_rowK {P : Program} (w : World) (dT sT ty elem : TypeId) (size : Nat) (g o dLen dCap : Nat) (a : Addr) (sLen sCap : Nat) (cur : Array Value) (t : TypeId) (cs : List Value)
    (hu : P.underlying dT = some (.slice elem)) (hs : (P.info? elem).map (·.size) = some size)
    (hg : w.heap[g]? = some (.cells cur t (0, 0))) (hn : cs.length = Nat.min sLen dLen * size)
    (hsrc : ∀ j v, cs[j]? = some v → w.cell? (a.add j) = some v) (hfit : o + cs.length ≤ cur.size) (h1 : ∀ v ∈ cs, v.oneCell' = true) :
    (Builtin.copy_ #[dT, sT] ty #[.slice (some ⟨g, o, none⟩) dLen dCap, .slice (some a) sLen sCap]).run P w =
      .ok (goInt (Nat.min sLen dLen)) (w.setRow g (cur.toList.take o ++ cs ++ cur.toList.drop (o + cs.length)).toArray) := by
  have hl := run_loadCells_list (P := P) w a cs hsrc
  have hst := run_storeCells_at P g o t cs 0 cur w hg (by simpa using hfit) h1
  cases hq : P.info? elem with
  | none => simp [hq] at hs
  | some i =>
    have hi : i.size = size := by simpa [hq] using hs
    subst hi
    simp [Builtin.copy_, run_underlying hu, Builtin.lenOf, Builtin.firstCells, sizeOf, typeInfo, hq, ← hn, hl, hst]

theorem copyK_world {w w0 : World} {g o B : Nat} {cur cs : List Value} {t : TypeId} (hg : w.heap[g]? = some (.cells cur.toArray t (0, 0))) (hb : w0.grownBy w (some g)) :
    (w.setRow g (cur.take o ++ cs ++ cur.drop (o + cs.length)).toArray).heap[g]? = some (.cells (splice cur o cs).toArray t (0, 0)) ∧ w0.grownBy (w.setRow g (cur.take o ++ cs ++ cur.drop (o + cs.length)).toArray) (some g) := by
  refine ⟨?_, ?_⟩
  · rw [setRow_heap w g _ _ t _ hg]; simp [splice]
  · exact ⟨hb.os, hb.tape, hb.output, by have := hb.size; simpa [World.setRow] using this, fun k hk hne => (setRow_other w g k _ (fun e => hne (by rw [e]))).trans (hb.block k hk hne)⟩

/-- copy into a row of the call's own, the source having an address. -/
theorem wpList_copyK {P : Program} {w : World} {ops : Array Oper} {rest : List Oper} {o : Oper} {a : Act} {Q : Exit → Act → World → Prop} (hgd : o.guard = none) (d s : Operand) (dT sT : TypeId)
    (ho : o.op = .call { callee := .builtin .copy, args := #[d, s], argTypes := #[dT, sT] }) (elem : TypeId) (size : Nat) (hu : P.underlying dT = some (.slice elem)) (hsz : (P.info? elem).map (·.size) = some size)
    (g off : Nat) (ad : Addr) (dLen dCap sLen sCap : Nat) (hd : a.eval d = .slice (some ⟨g, off, none⟩) dLen dCap) (hs : a.eval s = .slice (some ad) sLen sCap)
    (cur : List Value) (t : TypeId) (hg : w.heap[g]? = some (.cells cur.toArray t (0, 0))) (cs : List Value) (hn : cs.length = Nat.min sLen dLen * size)
    (hsrc : ∀ j v, cs[j]? = some v → w.cell? (ad.add j) = some v) (hfit : off + cs.length ≤ cur.length) (h1 : ∀ v ∈ cs, v.oneCell' = true) (w0 : World) (hb : w0.grownBy w (some g))
    (h : ∀ w', Hid (w'.heap[g]? = some (.cells (splice cur off cs).toArray t (0, 0))) → Hid (w0.grownBy w' (some g)) → wpList P ops Q rest (a.put o.dst (goInt (Nat.min sLen dLen))) w') :
    wpList P ops Q (o :: rest) a w := by
  refine wpList_plain hgd fun K hK => ?_
  have hrun := run_copy_rowK (P := P) w dT sT o.type elem size g off dLen dCap ad sLen sCap cur.toArray t cs hu hsz hg hn hsrc (by simpa using hfit) h1
  have hw := copyK_world (o := off) (cs := cs) (B := 0) hg hb
  unfold Oper.wp
  simp [execOp, ho, resolve, invoke, builtin, hd, hs, hrun, Result.andThen]
  have := h _ hw.1 hw.2
  simp at this
  exact hK _ _ this

/-- The same as a step of a region that draws its order. -/
theorem step_copyK {P : Program} {ops : Array Oper} {o : Oper} {a : Act} {w : World} {K : Act → World → Prop} {Q : Exit → Act → World → Prop} {E : Prop} (hgd : o.guard = none) (d s : Operand) (dT sT : TypeId)
    (ho : o.op = .call { callee := .builtin .copy, args := #[d, s], argTypes := #[dT, sT] }) (elem : TypeId) (size : Nat) (hu : P.underlying dT = some (.slice elem)) (hsz : (P.info? elem).map (·.size) = some size)
    (g off : Nat) (ad : Addr) (dLen dCap sLen sCap : Nat) (hd : a.eval d = .slice (some ⟨g, off, none⟩) dLen dCap) (hs : a.eval s = .slice (some ad) sLen sCap)
    (cur : List Value) (t : TypeId) (hg : w.heap[g]? = some (.cells cur.toArray t (0, 0))) (cs : List Value) (hn : cs.length = Nat.min sLen dLen * size)
    (hsrc : ∀ j v, cs[j]? = some v → w.cell? (ad.add j) = some v) (hfit : off + cs.length ≤ cur.length) (h1 : ∀ v ∈ cs, v.oneCell' = true) (w0 : World) (hb : w0.grownBy w (some g))
    (h : ∀ w', Hid (w'.heap[g]? = some (.cells (splice cur off cs).toArray t (0, 0))) → Hid (w0.grownBy w' (some g)) → K (a.put o.dst (goInt (Nat.min sLen dLen))) w') :
    if Region.wanted o (yielded ops a.tmps) = true then Oper.wp P o a w K Q else E := by
  have hw : Region.wanted o (yielded ops a.tmps) = true := by simp [Region.wanted, hgd]
  rw [if_pos hw]
  have hrun := run_copy_rowK (P := P) w dT sT o.type elem size g off dLen dCap ad sLen sCap cur.toArray t cs hu hsz hg hn hsrc (by simpa using hfit) h1
  have hw := copyK_world (o := off) (cs := cs) (B := 0) hg hb
  have := h _ hw.1 hw.2
  unfold Oper.wp
  simp [execOp, ho, resolve, invoke, builtin, hd, hs, hrun, Result.andThen]
  simp at this
  exact this

/-- append(s[:i], make(..)...) where there is no room: a new row of what stood ahead, then zeros. -/
theorem append_zeros_row {P : Program} (w : World) {t tn ty e : TypeId} {i0 : TypeInfo} {z0 : Value} {size bytes : Nat} {kn : IntKind} (ht : P.underlying t = some (.slice e)) (htn : P.underlying tn = some (.int kn)) (hi : P.info? e = some i0) (hz : i0.zero = some z0)
    (hsize : i0.size = size) (hby : i0.bytes = bytes) (hzs : z0.cells.size = size) (hsz : 0 < size) {g : Nat} {cur : List Value} (hg : w.heap[g]? = some (.cells cur.toArray e (0, 0))) {i k c : Nat} (hk : 0 < k) (hfull : c < i + k)
    (hl : i * size ≤ cur.length) (hb : (i + k) * bytes ≤ 140737488355328) (hm : i + k ≤ maxLen) :
    ∃ (C : Nat) (Z : List Value) (w1 : World), (Builtin.append_ #[t, tn] ty #[.slice (some ⟨g, 0, none⟩) i c, .int .i64 (k : Nat)]).run P w = .ok (.slice (some ⟨w.heap.size, 0, none⟩) (i + k) C) w1 ∧ w1.heap[w.heap.size]? = some (.cells Z.toArray e (0, 0)) ∧
      i + k ≤ C ∧ C ≤ maxLen ∧ Z.length = C * size ∧ Z.take (i * size) = cur.take (i * size) ∧ w.grownBy w1 none ∧ w1.heap.size = w.heap.size + 1 := by
  subst hsize
  subst hby
  have hm' : ((i + k : Nat) : Int) ≤ 9223372036854775807 := by simp only [maxLen] at hm; omega
  have hbk : k * i0.bytes ≤ 281474976710656 := by
    have : k * i0.bytes ≤ (i + k) * i0.bytes := Nat.mul_le_mul_right _ (by omega)
    omega
  have hold : (Builtin.firstCells i0.size i (.slice (some ⟨g, 0, none⟩) i c)).run P w.drew = .ok (cur.take (i * i0.size)).toArray w.drew := by
    simp only [Builtin.firstCells]
    have hlen : (cur.take (i * i0.size)).length = i * i0.size := by rw [List.length_take]; omega
    have := run_loadCells_list (P := P) w.drew ⟨g, 0, none⟩ (cur.take (i * i0.size)) fun j v hj => by
      have hj' : j < i * i0.size := by have := (List.getElem?_eq_some_iff.1 hj).1; omega
      rw [List.getElem?_take, if_pos hj'] at hj
      have e : (⟨g, 0, none⟩ : Addr).add j = ⟨g, j, none⟩ := by unfold Addr.add; split <;> simp_all
      rw [e]
      have h1 : w.cell? ⟨g, j, none⟩ = cur[j]? := by simp [World.cell?, hg]
      exact h1.trans hj
    rwa [hlen] at this
  have hrun := Lib.run_append_grow_zeros (P := P) w t tn ty e i0 z0 .i64 kn ht htn hi hz (some ⟨g, 0, none⟩) i c (cur.take (i * i0.size)) hold k hk hsz hfull hm' hbk (growslice_fits hfull hb)
  have hge := grownCap_ge w (i + k) c e
  refine ⟨_, (cur.take (i * i0.size)) ++ (Builtin.zeroCells z0.cells k).toList ++ (Builtin.zeroCells z0.cells (grownCap w (i + k) c e - (i + k))).toList, _, hrun, ?_, hge, grownCap_le_maxLen w (i + k) c e hm, ?_, ?_, ⟨rfl, rfl, rfl, by simp, fun j hj _ => heap_alloc_old w.drew _ j hj⟩, by simp⟩
  · have := heap_alloc_new w.drew (.cells ((cur.take (i * i0.size)).toArray ++ Builtin.zeroCells z0.cells k ++ Builtin.zeroCells z0.cells (grownCap w (i + k) c e - (i + k))) e)
    have e : ((cur.take (i * i0.size)) ++ (Builtin.zeroCells z0.cells k).toList ++ (Builtin.zeroCells z0.cells (grownCap w (i + k) c e - (i + k))).toList).toArray = (cur.take (i * i0.size)).toArray ++ Builtin.zeroCells z0.cells k ++ Builtin.zeroCells z0.cells (grownCap w (i + k) c e - (i + k)) := by
      apply Array.toList_inj.1
      simp
    rw [e]
    exact this
  · simp only [List.length_append, List.length_take, Array.length_toList, size_zeroCells, hzs]
    rw [Nat.min_eq_left hl, ← Nat.add_mul, ← Nat.add_mul]
    congr 1
    omega
  · rw [List.append_assoc, List.take_append_of_le_length (by rw [List.length_take]; omega), List.take_of_length_le (by rw [List.length_take]; omega)]
end Go.Proofs.Ytajcmpafbcpicaa
