/- Ranging over a map keyed by uint64, whose entries are known: the step, the entry, a store at a key that is there, a delete. No program in sight. No conditions. -/
import Derived.Test.YtnngkjjabccglaaTMap
import Derived.Maps.RangeWalk
set_option linter.unusedVariables false
set_option linter.unusedSimpArgs false
namespace Go.Proofs.Ytnngkjjabccglaa
open Go.RowKit Go.ChangeMaps Go.Instr

structure MapX (w : World) (b : Nat) (es : Array MapEntry) (clk : Nat) : Prop where
  blk : w.heap[b]? = some (.map es clk)
  born : ∀ e ∈ es.toList, e.born < clk
  nd : (es.toList.map (·.born)).Nodup
  keys : ∀ e ∈ es.toList, ∃ k : Nat, e.key = u64v k
def IterX (w : World) (r b clk : Nat) (seen : Array Nat) : Prop := w.heap[r]? = some (.mapIter (some b) clk seen clk)
theorem MapX.lt {w : World} {b clk : Nat} {es : Array MapEntry} (h : MapX w b es clk) : b < w.heap.size := (Array.getElem?_eq_some_iff.1 h.blk).1
theorem IterX.lt {w : World} {r b clk : Nat} {seen : Array Nat} (h : IterX w r b clk seen) : r < w.heap.size := (Array.getElem?_eq_some_iff.1 h).1
theorem MapX.keep {w w' : World} {b clk : Nat} {es : Array MapEntry} (h : MapX w b es clk) (hb : w'.heap[b]? = w.heap[b]?) : MapX w' b es clk := ⟨hb.trans h.blk, h.born, h.nd, h.keys⟩
theorem IterX.keep {w w' : World} {r b clk : Nat} {seen : Array Nat} (h : IterX w r b clk seen) (hb : w'.heap[r]? = w.heap[r]?) : IterX w' r b clk seen := hb.trans h
theorem MapB.x {w : World} {b : Nat} {kv : List (Nat × Value)} (h : MapB w b kv) : ∃ es clk, MapX w b es clk ∧ es.toList.map (fun e => (e.key, e.val)) = kv.map (fun x => (u64v x.1, x.2)) := by
  obtain ⟨es, clk, h1, h2, h3, h4⟩ := h
  refine ⟨es, clk, ⟨h1, h3, h4, fun e he => ?_⟩, h2⟩
  have : (e.key, e.val) ∈ es.toList.map (fun e => (e.key, e.val)) := List.mem_map_of_mem he
  rw [h2] at this
  obtain ⟨x, _, hx⟩ := List.mem_map.1 this
  injection hx with hx _
  exact ⟨x.1, hx.symm⟩
theorem MapX.b {w : World} {b clk : Nat} {es : Array MapEntry} {kv : List (Nat × Value)} (h : MapX w b es clk) (hk : es.toList.map (fun e => (e.key, e.val)) = kv.map (fun x => (u64v x.1, x.2))) : MapB w b kv := ⟨es, clk, h.blk, hk, h.born, h.nd⟩

section
variable {P : Program} {t kt et : TypeId}
theorem run_range_x {w : World} {b clk : Nat} {es : Array MapEntry} (h : MapX w b es clk) (ht : P.underlying t = some (.map kt et)) :
    (Instr.range t (.map (some b))).run P w = .ok (.pointer (some ⟨w.heap.size, 0, none⟩)) (w.alloc (.mapIter (some b) clk #[] clk)) := run_range_map w t kt et b es clk ht h.blk

theorem next_x {w : World} {b r clk : Nat} {es : Array MapEntry} {seen : Array Nat} (h : MapX w b es clk) (hi : IterX w r b clk seen) (ty : TypeId) :
    ((∀ e ∈ es.toList, e.born ∈ seen.toList) ∧ (Instr.next (.pointer (some ⟨r, 0, none⟩)) false ty).run P w = .ok (.tuple #[.bool false]) w) ∨
    (∃ e n, e ∈ es.toList ∧ e.born ∉ seen.toList ∧ (Instr.next (.pointer (some ⟨r, 0, none⟩)) false ty).run P w = .ok (.tuple #[.bool true, e.key, e.val]) (setBlock (w.drewN n) r (.mapIter (some b) clk (seen.push e.born) clk))) := by
  rcases run_next_at (P := P) w ty r b clk clk seen es clk hi h.blk h.born (Nat.le_refl _) with ⟨h0, hrun⟩ | ⟨e, he, w1, hw1, hrun⟩
  · left
    refine ⟨fun e he => ?_, hrun⟩
    have hl : leftOf es seen = #[] := Array.eq_empty_of_size_eq_zero h0
    unfold leftOf at hl
    have := Array.filter_eq_empty_iff.1 hl e (Array.mem_toList_iff.1 he)
    simpa using this
  · right
    unfold leftOf at he
    have hm := Array.mem_filter.1 (Array.mem_toList_iff.1 he)
    rcases hw1 with rfl | rfl
    · exact ⟨e, 0, Array.mem_toList_iff.2 hm.1, by simpa using hm.2, hrun⟩
    · exact ⟨e, 1, Array.mem_toList_iff.2 hm.1, by simpa using hm.2, hrun⟩

theorem entry_x {w : World} {b r clk : Nat} {es : Array MapEntry} {seen : Array Nat} (h : MapX w b es clk) {e : MapEntry} (he : e ∈ es.toList) (hi : IterX w r b clk (seen.push e.born)) :
    (Instr.entry (.pointer (some ⟨r, 0, none⟩))).run P w = .ok (.tuple #[e.key, e.val]) w := run_entry_at w r b clk seen es clk e hi h.blk he h.nd

/-- The step, for the walk. -/
theorem wpList_next_x {w : World} {ops : Array Oper} {rest : List Oper} {o : Oper} {a : Act} {Q : Exit → Act → World → Prop} (hg : o.guard = none) (it : Operand) (hop : o.op = Op.next it false) {b r clk : Nat} {es : Array MapEntry} {seen : Array Nat}
    (hit : a.eval it = .pointer (some ⟨r, 0, none⟩)) (h : MapX w b es clk) (hi : IterX w r b clk seen) (hrb : r ≠ b)
    (hDone : (∀ e ∈ es.toList, e.born ∈ seen.toList) → wpList P ops Q rest (a.put o.dst (.tuple #[.bool false])) w)
    (hMore : ∀ (e : MapEntry) (w' : World), e ∈ es.toList → e.born ∉ seen.toList → MapX w' b es clk → IterX w' r b clk (seen.push e.born) → (∀ k, k ≠ r → w'.heap[k]? = w.heap[k]?) → w.grownBy w' (some r) → w'.heap.size = w.heap.size →
      (Instr.entry (.pointer (some ⟨r, 0, none⟩))).run P w' = .ok (.tuple #[e.key, e.val]) w' → wpList P ops Q rest (a.put o.dst (.tuple #[.bool true, e.key, e.val])) w') :
    wpList P ops Q (o :: rest) a w := by
  refine wpList_plain hg fun K' hK' => ?_
  unfold Oper.wp
  rcases next_x (P := P) h hi o.type with ⟨h0, hrun⟩ | ⟨e, n, he, hns, hrun⟩
  · simp [execOp, hop, hit, hrun, Result.andThen]
    exact hK' _ _ (hDone h0)
  · have hi' : (w.drewN n).heap[r]? = some (.mapIter (some b) clk seen clk) := hi
    have hoth : ∀ k, k ≠ r → (setBlock (w.drewN n) r (.mapIter (some b) clk (seen.push e.born) clk)).heap[k]? = w.heap[k]? := fun k hk => by
      simp only [setBlock]
      rw [Array.getElem?_setIfInBounds_ne (Ne.symm hk)]; rfl
    have hm : MapX (setBlock (w.drewN n) r (.mapIter (some b) clk (seen.push e.born) clk)) b es clk := h.keep (hoth b (Ne.symm hrb))
    have hit' : IterX (setBlock (w.drewN n) r (.mapIter (some b) clk (seen.push e.born) clk)) r b clk (seen.push e.born) := by
      have hlt : r < w.heap.size := (Array.getElem?_eq_some_iff.1 hi').1
      simp [IterX, setBlock, hlt]
    simp [execOp, hop, hit, hrun, Result.andThen]
    exact hK' _ _ (hMore e _ he hns hm hit' hoth ⟨rfl, rfl, rfl, by simp [setBlock, World.drewN], fun i _ hi2 => hoth i (fun e => hi2 (by rw [e]))⟩ (by simp [setBlock, World.drewN]) (entry_x hm he hit'))

/-- A store at a key that is there. -/
theorem MapX.store {w : World} {b clk : Nat} {es : Array MapEntry} (h : MapX w b es clk) {kv : List (Nat × Value)} (hkv : es.toList.map (fun e => (e.key, e.val)) = kv.map (fun x => (u64v x.1, x.2))) (ht : P.underlying t = some (.map kt et)) (hk : P.underlying kt = some (.int .u64)) (k : Nat) (hin : (lookU k kv).isSome = true) (v : Value) :
    ∃ w' es', (Instr.mapUpdate t (.map (some b)) (u64v k) v).run P w = .ok () w' ∧ MapX w' b es' clk ∧ es'.toList.map (fun e => (e.key, e.val)) = (putU k v kv).map (fun x => (u64v x.1, x.2)) ∧ es'.toList.map (fun e => (e.key, e.born)) = es.toList.map (fun e => (e.key, e.born)) ∧ w.grownBy w' (some b) := by
  have hb := h.blk
  obtain ⟨r, h1, h2, h3⟩ := findNow_u (k := k) es.toList kv 0 hkv
  have hf := run_findKey_u (P := P) (w := w) hk h1
  have hc := fun b => run_checkKey_u (P := P) (w := w) (k := k) (b := b) hk
  have hg : (getObj b).run P w = .ok (.map es clk) w := by simp [getObj, Sem.run, hb]
  have hu : (Go.underlying t).run P w = .ok (.map kt et) w := by simp [Go.underlying, Sem.run, Sem.run_bind, ht]
  have hset : ∀ o, (setObj b o).run P w = .ok () (setBlock w b o) := fun o => by simp [setObj, Sem.run, hb, setBlock]
  have hgr : ∀ o, w.grownBy (setBlock w b o) (some b) := fun o => ⟨rfl, rfl, rfl, by simp [setBlock], fun i _ hi => heap_setBlock_other hb _ (fun e => hi (by rw [e]))⟩
  cases r with
  | none =>
    obtain ⟨h4, _⟩ := h2 rfl
    rw [h4] at hin
    cases hin
  | some ju =>
    obtain ⟨j, u⟩ := ju
    obtain ⟨h4, h5, ⟨e, h6, h6'⟩, h7⟩ := h3 j u rfl
    simp only [Nat.sub_zero] at h6 h7
    have hk2 : ((es[j]?).map (·.key)).getD (u64v k) = u64v k := by
      have : es[j]? = some e := by simpa using h6
      rw [this]; simpa using h6'
    have hsb : sameBits 10000 (u64v k) (u64v k) = true := by simp [sameBits]
    have hmod : (es.modify j fun e => { e with key := u64v k, val := v }).toList.map (fun e => (e.key, e.born)) = es.toList.map (fun e => (e.key, e.born)) := by
      simp only [Array.toList_modify]
      refine List.ext_getElem? fun i => ?_
      simp only [List.getElem?_map, List.getElem?_modify]
      by_cases hij : j = i
      · subst hij
        simp [h6, h6']
      · cases es.toList[i]? with
        | none => rfl
        | some x => simp [hij]
    have hborn : (es.modify j fun e => { e with key := u64v k, val := v }).toList.map (·.born) = es.toList.map (·.born) := by
      have := congrArg (List.map (fun x : Value × Nat => x.2)) hmod
      simpa only [List.map_map, Function.comp_def] using this
    have hmem : ∀ x ∈ (es.modify j fun e => { e with key := u64v k, val := v }).toList, ∃ y ∈ es.toList, y.key = x.key ∧ y.born = x.born := fun x hx => by
      have : (x.key, x.born) ∈ (es.modify j fun e => { e with key := u64v k, val := v }).toList.map (fun e => (e.key, e.born)) := List.mem_map_of_mem hx
      rw [hmod] at this
      obtain ⟨y, hy, hxy⟩ := List.mem_map.1 this
      injection hxy with e1 e2
      exact ⟨y, hy, e1, e2⟩
    refine ⟨setBlock w b (.map (es.modify j fun e => { e with key := u64v k, val := v }) clk), es.modify j fun e => { e with key := u64v k, val := v }, ?_, ⟨heap_setBlock_same hb _, fun x hx => ?_, by rw [hborn]; exact h.nd, fun x hx => ?_⟩, ?_, hmod, hgr _⟩
    · unfold Instr.mapUpdate
      simp [Sem.run_bind, hu, hg, hc, hf, hset, Result.andThen, Sem.run, keyThatStays, hk2, hsb]
    · obtain ⟨y, hy, _, e2⟩ := hmem x hx
      rw [← e2]; exact h.born y hy
    · obtain ⟨y, hy, e1, _⟩ := hmem x hx
      rw [← e1]; exact h.keys y hy
    · rw [← h7 v]; simp
end
end Go.Proofs.Ytnngkjjabccglaa
