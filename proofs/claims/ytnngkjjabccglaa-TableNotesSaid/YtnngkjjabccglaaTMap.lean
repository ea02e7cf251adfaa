/- Maps keyed by uint64, their entries known in order: look-up, store. No program in sight. No conditions. -/
import Derived.Test.YtnngkjjabccglaaTMem
import Derived.ChangeMaps4
import Derived.Maps.Own
set_option linter.unusedVariables false
set_option linter.unusedSimpArgs false
namespace Go.Proofs.Ytnngkjjabccglaa
open Go.RowKit Go.ChangeMaps Go.Instr

abbrev u64v (k : Nat) : Value := .int .u64 (k : Nat)
def lookU {α : Type} (k : Nat) : List (Nat × α) → Option α
  | [] => none
  | (j, v) :: l => if j = k then some v else lookU k l
def putU {α : Type} (k : Nat) (v : α) : List (Nat × α) → List (Nat × α)
  | [] => [(k, v)]
  | (j, u) :: l => if j = k then (k, v) :: l else (j, u) :: putU k v l
theorem lookU_put {α : Type} (k j : Nat) (v : α) : ∀ l : List (Nat × α), lookU j (putU k v l) = if k = j then some v else lookU j l
  | [] => by simp [putU, lookU]
  | (i, u) :: l => by
    unfold putU
    by_cases h : i = k
    · subst h
      simp only [if_true, lookU]
      by_cases h2 : i = j <;> simp [h2]
    · rw [if_neg h]
      simp only [lookU, lookU_put k j v l]
      by_cases h2 : i = j
      · subst h2
        have : ¬ k = i := fun e => h e.symm
        simp [this]
      · simp [h2]

/-- The block b is a map with these entries, in this order. -/
def MapB (w : World) (b : Nat) (kv : List (Nat × Value)) : Prop :=
  ∃ (es : Array MapEntry) (clock : Nat), w.heap[b]? = some (.map es clock) ∧ es.toList.map (fun e => (e.key, e.val)) = kv.map (fun x => (u64v x.1, x.2)) ∧ (∀ e ∈ es.toList, e.born < clock) ∧ (es.toList.map (·.born)).Nodup
theorem MapB.lt {w : World} {b : Nat} {kv : List (Nat × Value)} (h : MapB w b kv) : b < w.heap.size := by
  obtain ⟨es, c, hb, _⟩ := h
  exact (Array.getElem?_eq_some_iff.1 hb).1
theorem MapB.keep {w w' : World} {b : Nat} {kv : List (Nat × Value)} (h : MapB w b kv) (hb : w'.heap[b]? = w.heap[b]?) : MapB w' b kv := by
  obtain ⟨es, c, h1, h2⟩ := h
  exact ⟨es, c, hb.trans h1, h2⟩
theorem MapB.under {w w' : World} {b : Nat} {kv : List (Nat × Value)} (h : MapB w b kv) (hb : Below w.heap.size w w') : MapB w' b kv := h.keep (hb.block b h.lt)
theorem MapB.new (w : World) : MapB (w.alloc (.map #[] 0)) w.heap.size [] := ⟨#[], 0, heap_alloc_new w _, rfl, by simp, by simp⟩

section
variable {P : Program} {t kt et : TypeId}

theorem findNow_u {k : Nat} : ∀ (es : List MapEntry) (kv : List (Nat × Value)) (i : Nat), es.map (fun e => (e.key, e.val)) = kv.map (fun x => (u64v x.1, x.2)) →
    ∃ r, findNow (.int .u64) (u64v k) es i = some r ∧ (r = none → lookU k kv = none ∧ ∀ v, (es.map (fun e => (e.key, e.val))) ++ [(u64v k, v)] = (putU k v kv).map (fun x => (u64v x.1, x.2))) ∧
      ∀ j u, r = some (j, u) → lookU k kv = some u ∧ i ≤ j ∧ (∃ e, es[j - i]? = some e ∧ e.key = u64v k) ∧ ∀ v, ((es.modify (j - i) fun e => { e with key := u64v k, val := v }).map (fun e => (e.key, e.val))) = (putU k v kv).map (fun x => (u64v x.1, x.2))
  | [], kv, i, h => by
    cases kv with
    | nil => exact ⟨none, rfl, fun _ => ⟨rfl, fun v => rfl⟩, fun j u e => by cases e⟩
    | cons x l => simp at h
  | e :: es, kv, i, h => by
    cases kv with
    | nil => simp at h
    | cons x l =>
      obtain ⟨n, u⟩ := x
      simp only [List.map_cons, List.cons.injEq, Prod.mk.injEq] at h
      obtain ⟨⟨hk, hv⟩, ht⟩ := h
      unfold findNow
      rw [hk]
      by_cases hn : n = k
      · subst hn
        have hs : sameNow (.int .u64) (u64v n) (u64v n) = some true := by simp [sameNow]
        rw [hs]
        refine ⟨some (i, e.val), rfl, ⟨fun h => (by cases h), fun j w h => ?_⟩⟩
        injection h with h
        injection h with h1 h2
        subst h1
        subst h2
        refine ⟨by simp [lookU, hv], Nat.le_refl _, ⟨e, by simp, hk⟩, fun v => ?_⟩
        simp only [Nat.sub_self, List.modify_zero_cons, List.map_cons, putU, if_true, ht]
      · have hs : sameNow (.int .u64) (u64v k) (u64v n) = some false := by
          simp only [sameNow, if_true, Option.some.injEq, beq_eq_false_iff_ne]
          intro e
          apply hn
          omega
        rw [hs]
        obtain ⟨r, h1, h2, h3⟩ := findNow_u es l (i + 1) ht
        refine ⟨r, h1, fun hr => ?_, fun j w hr => ?_⟩
        · obtain ⟨g1, g2⟩ := h2 hr
          refine ⟨by simp [lookU, hn, g1], fun v => ?_⟩
          have := g2 v
          simp only [List.map_cons, List.cons_append, putU, if_neg hn, hk, hv]
          rw [this]
        · obtain ⟨g1, g2, ⟨e', g3, g3'⟩, g4⟩ := h3 j w hr
          have hj : j - i = (j - (i + 1)) + 1 := by omega
          refine ⟨by simp [lookU, hn, g1], by omega, ⟨e', by rw [hj]; simpa using g3, g3'⟩, fun v => ?_⟩
          rw [hj]
          have := g4 v
          simp only [List.modify_succ_cons, List.map_cons, putU, if_neg hn, hk, hv]
          rw [this]

theorem run_findKey_u {w : World} {k : Nat} {es : Array MapEntry} {r : Option (Nat × Value)} (hk : P.underlying kt = some (.int .u64)) (h : findNow (.int .u64) (u64v k) es.toList 0 = some r) : (findKey kt (u64v k) es.toList).run P w = .ok r w := by
  unfold findKey
  simp [Sem.run_bind, Go.underlying, Sem.run, hk, h, Result.andThen]
theorem run_checkKey_u {w : World} {k : Nat} {b : Bool} (hk : P.underlying kt = some (.int .u64)) : (checkKey b 10000 kt (u64v k)).run P w = .ok () w := by
  unfold checkKey
  simp [Sem.run_bind, Go.underlying, Sem.run, hk, Result.andThen]

/-- A look-up. -/
theorem MapB.look {w : World} {b : Nat} {kv : List (Nat × Value)} (h : MapB w b kv) (ht : P.underlying t = some (.map kt et)) (hk : P.underlying kt = some (.int .u64)) {z : Value} (hz : (zeroValue et).run P w = .ok z w) (k : Nat) :
    (Instr.lookup t (.map (some b)) (u64v k) false).run P w = .ok ((lookU k kv).getD z) w ∧ (Instr.lookup t (.map (some b)) (u64v k) true).run P w = .ok (.tuple #[(lookU k kv).getD z, .bool (lookU k kv).isSome]) w := by
  obtain ⟨es, c, hb, he, _⟩ := h
  obtain ⟨r, h1, h2, h3⟩ := findNow_u (k := k) es.toList kv 0 he
  have hf := run_findKey_u (P := P) (w := w) hk h1
  have hc := fun b => run_checkKey_u (P := P) (w := w) (k := k) (b := b) hk
  have hg : (getObj b).run P w = .ok (.map es c) w := by simp [getObj, Sem.run, hb]
  have hu : (Go.underlying t).run P w = .ok (.map kt et) w := by simp [Go.underlying, Sem.run, Sem.run_bind, ht]
  cases r with
  | none =>
    obtain ⟨h4, _⟩ := h2 rfl
    rw [h4]
    unfold Instr.lookup
    simp [Sem.run_bind, hu, hg, hc, hf, hz, Result.andThen, Sem.run]
  | some ju =>
    obtain ⟨j, u⟩ := ju
    obtain ⟨h4, _⟩ := h3 j u rfl
    rw [h4]
    unfold Instr.lookup
    simp [Sem.run_bind, hu, hg, hc, hf, hz, Result.andThen, Sem.run]
theorem look_nil {w : World} (ht : P.underlying t = some (.map kt et)) (hk : P.underlying kt = some (.int .u64)) {z : Value} (hz : (zeroValue et).run P w = .ok z w) (k : Nat) :
    (Instr.lookup t (.map none) (u64v k) false).run P w = .ok z w ∧ (Instr.lookup t (.map none) (u64v k) true).run P w = .ok (.tuple #[z, .bool false]) w := by
  have hc := fun b => run_checkKey_u (P := P) (w := w) (k := k) (b := b) hk
  have hu : (Go.underlying t).run P w = .ok (.map kt et) w := by simp [Go.underlying, Sem.run, Sem.run_bind, ht]
  have hf := run_findKey_u (P := P) (w := w) (k := k) (es := #[]) (r := none) hk rfl
  unfold Instr.lookup
  simp [Sem.run_bind, hu, hc, hf, hz, Result.andThen, Sem.run]

/-- A store. -/
theorem MapB.store {w : World} {b : Nat} {kv : List (Nat × Value)} (h : MapB w b kv) (ht : P.underlying t = some (.map kt et)) (hk : P.underlying kt = some (.int .u64)) (k : Nat) (v : Value) :
    ∃ w', (Instr.mapUpdate t (.map (some b)) (u64v k) v).run P w = .ok () w' ∧ MapB w' b (putU k v kv) ∧ w.grownBy w' (some b) := by
  obtain ⟨es, c, hb, he, hst, hnd⟩ := h
  have hlt : b < w.heap.size := (Array.getElem?_eq_some_iff.1 hb).1
  obtain ⟨r, h1, h2, h3⟩ := findNow_u (k := k) es.toList kv 0 he
  have hf := run_findKey_u (P := P) (w := w) hk h1
  have hc := fun b => run_checkKey_u (P := P) (w := w) (k := k) (b := b) hk
  have hg : (getObj b).run P w = .ok (.map es c) w := by simp [getObj, Sem.run, hb]
  have hu : (Go.underlying t).run P w = .ok (.map kt et) w := by simp [Go.underlying, Sem.run, Sem.run_bind, ht]
  have hset : ∀ o, (setObj b o).run P w = .ok () (setBlock w b o) := fun o => by simp [setObj, Sem.run, hb, setBlock]
  have hgr : ∀ o, w.grownBy (setBlock w b o) (some b) := fun o => ⟨rfl, rfl, rfl, by simp [setBlock], fun i _ hi => heap_setBlock_other hb _ (fun e => hi (by rw [e]))⟩
  cases r with
  | none =>
    obtain ⟨_, h4⟩ := h2 rfl
    refine ⟨setBlock w b (.map (es.push { key := u64v k, val := v, born := c }) (c + 1)), ?_, ⟨_, _, heap_setBlock_same hb _, ?_, ?_, ?_⟩, hgr _⟩
    · unfold Instr.mapUpdate
      simp [Sem.run_bind, hu, hg, hc, hf, hset, Result.andThen, Sem.run]
    · rw [← h4 v]; simp
    · intro e he'
      simp at he'
      rcases he' with he' | rfl
      · have := hst e (by simpa using he'); omega
      · simp
    · simp only [Array.toList_push, List.map_append, List.map_cons, List.map_nil]
      rw [List.nodup_append]
      refine ⟨hnd, by simp, ?_⟩
      intro x hx y hy
      simp at hy
      subst hy
      simp at hx
      obtain ⟨e, he', rfl⟩ := hx
      have := hst e (by simpa using he')
      omega
  | some ju =>
    obtain ⟨j, u⟩ := ju
    obtain ⟨h4, h5, ⟨e, h6, h6'⟩, h7⟩ := h3 j u rfl
    simp only [Nat.sub_zero] at h6 h7
    have hk2 : ((es[j]?).map (·.key)).getD (u64v k) = u64v k := by
      have : es[j]? = some e := by simpa using h6
      rw [this]; simpa using h6'
    have hsb : sameBits 10000 (u64v k) (u64v k) = true := by simp [sameBits]
    refine ⟨setBlock w b (.map (es.modify j fun e => { e with key := u64v k, val := v }) c), ?_, ⟨_, _, heap_setBlock_same hb _, ?_, ?_, ?_⟩, hgr _⟩
    · unfold Instr.mapUpdate
      simp [Sem.run_bind, hu, hg, hc, hf, hset, Result.andThen, Sem.run, keyThatStays, hk2, hsb]
    · rw [← h7 v]; simp
    · intro x hx
      simp only [Array.toList_modify] at hx
      obtain ⟨i, hi⟩ := List.getElem?_of_mem hx
      rw [List.getElem?_modify] at hi
      by_cases hij : j = i
      · subst hij
        rw [h6] at hi
        simp at hi
        subst hi
        exact hst e (List.mem_of_getElem? h6)
      · simp [hij] at hi
        exact hst x (List.mem_of_getElem? (by simpa using hi))
    · have : (es.modify j fun e => { e with key := u64v k, val := v }).toList.map (·.born) = es.toList.map (·.born) := by
        simp only [Array.toList_modify]
        refine List.ext_getElem? fun i => ?_
        simp only [List.getElem?_map, List.getElem?_modify]
        cases es.toList[i]? with
        | none => rfl
        | some x => by_cases hij : j = i <;> simp [hij]
      rw [this]
      exact hnd

/-- .. at the operation. -/
theorem wpList_store_u {w : World} {ops : Array Oper} {rest : List Oper} {o : Oper} {a : Act} {Q : Exit → Act → World → Prop} (hg : o.guard = none) (m x v : Operand) (t : TypeId) (hop : o.op = Op.mapUpdate t m x v) (kt et : TypeId)
    (ht : P.underlying t = some (.map kt et)) (hk : P.underlying kt = some (.int .u64)) (b : Nat) (kv : List (Nat × Value)) (hm : a.eval m = .map (some b)) (h : MapB w b kv) (k : Nat) (val : Value) (hx : a.eval x = u64v k) (hv : a.eval v = val)
    (hK : ∀ w', MapB w' b (putU k val kv) → w.grownBy w' (some b) → wpList P ops Q rest (a.put o.dst undef) w') : wpList P ops Q (o :: rest) a w := by
  refine wpList_plain hg fun K' hK' => ?_
  obtain ⟨w', hrun, r1, r2⟩ := h.store (P := P) ht hk k val
  unfold Oper.wp
  simp [execOp, hop, hm, hx, hv, hrun, Result.andThen]
  exact hK' _ _ (hK w' r1 r2)
end
end Go.Proofs.Ytnngkjjabccglaa
