/- How values and entries lie in memory. Plain facts on worlds; no program in sight. No conditions. -/
import Derived.Test.YtajcmpafbcpicaaVal
import Derived.WalkKit
import Derived.Deep.Draws
import Derived.Lib.Hide
set_option linter.unusedVariables false
set_option linter.unusedSimpArgs false
namespace Go.Proofs.Ytajcmpafbcpicaa
open Go.RowKit

theorem block_add (a : Addr) (n : Nat) : (a.add n).block = a.block := by unfold Addr.add; split <;> rfl
theorem add_add (a : Addr) (i j : Nat) : (a.add i).add j = a.add (i + j) := by
  unfold Addr.add
  by_cases hi : i = 0 <;> by_cases hj : j = 0 <;> simp [hi, hj, Nat.add_assoc]
theorem add_zero (a : Addr) : a.add 0 = a := by simp [Addr.add]
theorem add_lit (g j k : Nat) : (⟨g, j, none⟩ : Addr).add k = ⟨g, j + k, none⟩ := by unfold Addr.add; split <;> simp_all

theorem cell_alloc {w : World} {a : Addr} {u : Value} (o : Obj) (h : w.cell? a = some u) : (w.alloc o).cell? a = some u :=
  (World.cell?_alloc_lt w o a (World.block_lt_of_cell? w a h)).trans h
theorem cell_below {w w1 : World} (h : Below w.heap.size w w1) {a : Addr} {v : Value} (hc : w.cell? a = some v) : w1.cell? a = some v := (h.cell (World.block_lt_of_cell? w a hc)).trans hc
theorem below_then {B : Nat} {w w1 w2 : World} (h : Below B w w1) (hB : B ≤ w1.heap.size) (k : Below w1.heap.size w1 w2) : Below B w w2 :=
  h.trans ⟨k.os, k.tape, k.output, k.size, fun i hi => k.block i (Nat.lt_of_lt_of_le hi hB)⟩
theorem below_drewN {B : Nat} {w W : World} (h : Below B w W) (n : Nat) : Below B w (W.drewN n) := ⟨h.os, h.tape, h.output, h.size, h.block⟩
theorem info_parts2 {P : Program} {e : TypeId} {k size bytes : Nat} (h : (P.info? e).map (fun i => (i.zero.map fun z => z.cells.size, i.size, i.bytes)) = some (some k, size, bytes)) :
    ∃ i z, P.info? e = some i ∧ i.zero = some z ∧ i.size = size ∧ i.bytes = bytes ∧ z.cells.size = k := by
  obtain ⟨i, hi, hzz⟩ := Option.map_eq_some_iff.1 h
  simp only [Prod.mk.injEq] at hzz
  obtain ⟨z, hz, hk⟩ := Option.map_eq_some_iff.1 hzz.1
  exact ⟨i, z, hi, hz, hzz.2.1, hzz.2.2, hk⟩
theorem own_slice {w : World} {base n : Nat} {e : TypeId} {size : Nat} {v : Value} {xs : List Value} (h : w.ownsRow base e size v n xs) : ∃ A c, v = .slice A n c := by
  rcases h.2 with ⟨rfl, rfl⟩ | ⟨g, cap, cur, rfl, _⟩
  · exact ⟨none, 0, rfl⟩
  · exact ⟨_, cap, rfl⟩

/-- What is in the blocks of S is as it was. -/
def Agree (S : Nat → Prop) (w w' : World) : Prop := ∀ b, S b → b < w.heap.size → w'.heap[b]? = w.heap[b]?
theorem Agree.refl (S : Nat → Prop) (w : World) : Agree S w w := fun _ _ _ => rfl
theorem Agree.of_below {S : Nat → Prop} {w w' : World} (h : Below w.heap.size w w') : Agree S w w' := fun b _ hb => h.block b hb
theorem Agree.of_below' {S : Nat → Prop} {B : Nat} {w w' : World} (h : Below B w w') (hS : ∀ b, S b → b < B) : Agree S w w' := fun b hb _ => h.block b (hS b hb)
theorem Agree.trans {S : Nat → Prop} {a b c : World} (h : Agree S a b) (k : Agree S b c) (hs : a.heap.size ≤ b.heap.size) : Agree S a c :=
  fun i hi hl => (k i hi (by omega)).trans (h i hi hl)
theorem Agree.mono {S S' : Nat → Prop} {w w' : World} (h : Agree S w w') (hs : ∀ b, S' b → S b) : Agree S' w w' := fun b hb hl => h b (hs b hb) hl
theorem Agree.grown {S : Nat → Prop} {w w' : World} {row : Option Nat} (h : w.grownBy w' row) (hs : ∀ b, row = some b → ¬ S b) : Agree S w w' :=
  fun b hb hl => h.block b hl (fun e => hs b e.symm hb)
theorem Agree.setCell {S : Nat → Prop} (w : World) (p : Addr) (u : Value) (hs : ¬ S p.block) : Agree S w (w.setCell p u) :=
  fun b hb _ => Below.heap_setCell w p u b (fun e => hs (e ▸ hb))
theorem Agree.cell {S : Nat → Prop} {w w' : World} (h : Agree S w w') {p : Addr} {u : Value} (hp : S p.block) (hc : w.cell? p = some u) : w'.cell? p = some u :=
  (World.cell?_of_block (h p.block hp (World.block_lt_of_cell? w p hc))).trans hc
theorem Agree.frozen {S : Nat → Prop} {w w' : World} (h : Agree S w w') {p : Addr} (hp : S p.block) (hl : p.block < w.heap.size) : w'.frozen? p = w.frozen? p :=
  World.frozen?_of_block (h p.block hp hl)

/-- From the address a on there are these cells. -/
def Cells (w : World) (a : Addr) (cs : List Value) : Prop := ∀ j u, cs[j]? = some u → w.cell? (a.add j) = some u
theorem Cells.keep {S : Nat → Prop} {w w' : World} {a : Addr} {cs : List Value} (h : Cells w a cs) (hA : Agree S w w') (hS : S a.block) : Cells w' a cs :=
  fun j u hu => hA.cell (by rw [block_add]; exact hS) (h j u hu)
theorem Cells.lt {w : World} {a : Addr} {u : Value} {cs : List Value} (h : Cells w a (u :: cs)) : a.block < w.heap.size := by
  have := World.block_lt_of_cell? w _ (h 0 u rfl)
  simpa [block_add] using this
theorem Cells.at_ {w : World} {a : Addr} {cs : List Value} (h : Cells w a cs) (j : Nat) {u : Value} (hu : cs[j]? = some u) : w.cell? (a.add j) = some u := h j u hu
theorem Cells.drop {w : World} {a : Addr} {u : Value} {cs : List Value} (h : Cells w a (u :: cs)) : Cells w (a.add 1) cs := by
  intro j v hv
  rw [add_add, Nat.add_comm]
  exact h (j + 1) v (by simpa using hv)

theorem run_loadVar_cells {P : Program} {ty : TypeId} {w : World} {a : Addr} {cs : List Value} (hA : (isAgg ty).run P w = .ok true w) (hS : (sizeOf ty).run P w = .ok cs.length w) (h : Cells w a cs) :
    (loadVar ty a).run P w = .ok (.agg cs.toArray) w := by
  have hl := run_loadCells_list (P := P) w a cs h
  simp [loadVar, Sem.run_bind, hA, hS, hl]
/-- A function's one result that lies in a variable. -/
theorem results_cell1 {P : Program} {fn : Func} {p : Tmp} {ty : TypeId} {w : World} {a : Addr} {cs : List Value} {tmps : Array Value} (h : fn.results = #[.cell p ty]) (ht : tmps.getD p undef = .pointer (some a))
    (hA : (isAgg ty).run P w = .ok true w) (hS : (sizeOf ty).run P w = .ok cs.length w) (hc : Cells w a cs) : (results fn tmps).run P w = .ok (.agg cs.toArray) w := by
  have hl := run_loadVar_cells hA hS hc
  have ht' := ht
  simp at ht'
  simp only [results, h]
  simp [Sem.run_bind, ht', asAddr, hl, Result.andThen]
theorem results_cell_tmp2 {P : Program} {fn : Func} {p u : Tmp} {ty : TypeId} {w : World} {a : Addr} {cs : List Value} {tmps : Array Value} (h : fn.results = #[.cell p ty, .tmp u]) (ht : tmps.getD p undef = .pointer (some a))
    (hA : (isAgg ty).run P w = .ok true w) (hS : (sizeOf ty).run P w = .ok cs.length w) (hc : Cells w a cs) : (results fn tmps).run P w = .ok (.tuple #[.agg cs.toArray, tmps.getD u undef]) w := by
  have hl := run_loadVar_cells hA hS hc
  have ht' := ht
  simp at ht'
  simp only [results, h]
  simp [Sem.run_bind, ht', asAddr, hl, Result.andThen]
/-- A block that is known whole; none of its cells is frozen. -/
def Blk (w : World) (g : Nat) (t : TypeId) (cs : Array Value) : Prop := w.heap[g]? = some (.cells cs t (0, 0))
theorem Blk.lt {w : World} {g : Nat} {t : TypeId} {cs : Array Value} (h : Blk w g t cs) : g < w.heap.size := by
  rcases Nat.lt_or_ge g w.heap.size with hlt | hge
  · exact hlt
  · unfold Blk at h; rw [Array.getElem?_eq_none hge] at h; cases h
theorem Blk.cell {w : World} {g : Nat} {t : TypeId} {cs : Array Value} (h : Blk w g t cs) (i : Nat) : w.cell? ⟨g, i, none⟩ = cs[i]? := by
  unfold Blk at h
  simp [World.cell?, h]
theorem Blk.frozen {w : World} {g : Nat} {t : TypeId} {cs : Array Value} (h : Blk w g t cs) (i : Nat) : w.frozen? ⟨g, i, none⟩ = false := by
  unfold Blk at h
  simp [World.frozen?, h]
theorem Blk.new (w : World) (t : TypeId) (cs : Array Value) : Blk (w.alloc (.cells cs t)) w.heap.size t cs := heap_alloc_new w _
theorem Blk.drew {w : World} {g : Nat} {t : TypeId} {cs : Array Value} (h : Blk w g t cs) : Blk w.drew g t cs := h
theorem Blk.drewN {w : World} {g : Nat} {t : TypeId} {cs : Array Value} (h : Blk w g t cs) (n : Nat) : Blk (w.drewN n) g t cs := h
theorem Blk.alloc {w : World} {g : Nat} {t : TypeId} {cs : Array Value} (h : Blk w g t cs) (o : Obj) : Blk (w.alloc o) g t cs := (Below.heap_alloc w o g h.lt).trans h
theorem Blk.set_ {w : World} {g : Nat} {t : TypeId} {cs : Array Value} (h : Blk w g t cs) (i : Nat) (u : Value) : Blk (w.setCell ⟨g, i, none⟩ u) g t (cs.setIfInBounds i u) := by
  unfold Blk at h ⊢
  simp [World.setCell, Array.getElem?_modify, h]
theorem Blk.far {w : World} {g : Nat} {t : TypeId} {cs : Array Value} (h : Blk w g t cs) {p : Addr} (hp : g ≠ p.block) (u : Value) : Blk (w.setCell p u) g t cs := (Below.heap_setCell w p u g hp).trans h
theorem Blk.below {w w' : World} {g : Nat} {t : TypeId} {cs : Array Value} {B : Nat} (h : Blk w g t cs) (hb : Below B w w') (hg : g < B) : Blk w' g t cs := (hb.block g hg).trans h
theorem Blk.under {w w' : World} {g : Nat} {t : TypeId} {cs : Array Value} (h : Blk w g t cs) (hb : Below w.heap.size w w') : Blk w' g t cs := h.below hb h.lt
theorem Blk.grown {w w' : World} {g : Nat} {t : TypeId} {cs : Array Value} {row : Option Nat} (h : Blk w g t cs) (hb : w.grownBy w' row) (hg : some g ≠ row) : Blk w' g t cs := (hb.block g h.lt hg).trans h
theorem Blk.agree {w w' : World} {g : Nat} {t : TypeId} {cs : Array Value} {S : Nat → Prop} (h : Blk w g t cs) (hA : Agree S w w') (hg : S g) : Blk w' g t cs := (hA g hg h.lt).trans h
theorem Blk.ne_ {w : World} {g g' : Nat} {t t' : TypeId} {cs cs' : Array Value} (h : Blk w g t cs) (h' : Blk w g' t' cs') (hne : t ≠ t') : g ≠ g' := by
  rintro rfl
  unfold Blk at h h'
  rw [h] at h'
  injection h' with h'
  injection h' with _ ht
  exact hne ht
theorem own_blk_ne {w : World} {base : Nat} {e : TypeId} {size n g : Nat} {t : TypeId} {cs : Array Value} {v : Value} {xs : List Value} (h : w.ownsRow base e size v n xs) (hg : Blk w g t cs) (hne : e ≠ t) : v.ownBlock ≠ some g := by
  rcases h.2 with ⟨rfl, _⟩ | ⟨g', cap, cur, rfl, _, hh, _⟩
  · simp [Value.ownBlock]
  · intro he
    have : g' = g := by simpa [Value.ownBlock] using he
    subst this
    exact Blk.ne_ (t := e) hh hg hne rfl
theorem own_under {w w1 : World} {base : Nat} {e : TypeId} {size n : Nat} {v : Value} {xs : List Value} (h : w.ownsRow base e size v n xs) (hb : Below w.heap.size w w1) : w1.ownsRow base e size v n xs :=
  h.kept (row := none) ⟨hb.os, hb.tape, hb.output, hb.size, fun i hi _ => hb.block i hi⟩ (by cases v.ownBlock <;> simp)
theorem own_far {w : World} {base : Nat} {e : TypeId} {size n : Nat} {v : Value} {xs : List Value} (h : w.ownsRow base e size v n xs) (p : Addr) (u : Value) (hp : v.ownBlock ≠ some p.block) : (w.setCell p u).ownsRow base e size v n xs := by
  refine ⟨h.1, ?_⟩
  rcases h.2 with h2 | ⟨g, cap, cur, rfl, hg, hh, r⟩
  · exact .inl h2
  · exact .inr ⟨g, cap, cur, rfl, hg, by rw [Below.heap_setCell _ _ _ _ (fun e => hp (by simp [Value.ownBlock, e]))]; exact hh, r⟩

theorem Blk.cells {w : World} {g : Nat} {t : TypeId} {cs : Array Value} (h : Blk w g t cs) : Cells w ⟨g, 0, none⟩ cs.toList := fun j u hu => by
  rw [add_lit, Nat.zero_add, h.cell]
  simpa using hu
/-- A value's six cells. -/
abbrev vcells (x : V) (pl : Option Addr) (cl : Nat) (po : Option Addr) (co : Nat) : List Value :=
  [.int .i64 x.kind, .bool x.bool, .int .i64 x.num, .string x.text, .slice pl x.list.length cl, .slice po x.obj.length co]
abbrev ecells (k : Key) (x : V) (pl : Option Addr) (cl : Nat) (po : Option Addr) (co : Nat) : List Value := .string k :: vcells x pl cl po co

/-- A value's lists lie in memory, in blocks of S. -/
inductive VIn (w : World) (S : Nat → Prop) : V → Option Addr → Option Addr → Prop
  | mk {x : V} {pl po : Option Addr} (ql qo rl ro : Nat → Option Addr) (cl co dl dO : Nat → Nat)
      (hl : ∀ i y, x.list[i]? = some y → ∃ a, pl = some a ∧ S a.block ∧ Cells w (a.add (i * 6)) (vcells y (ql i) (cl i) (qo i) (co i)))
      (hl' : ∀ i y, x.list[i]? = some y → VIn w S y (ql i) (qo i))
      (ho : ∀ i ky, x.obj[i]? = some ky → ∃ a, po = some a ∧ S a.block ∧ Cells w (a.add (i * 7)) (ecells ky.1 ky.2 (rl i) (dl i) (ro i) (dO i)))
      (ho' : ∀ i ky, x.obj[i]? = some ky → VIn w S ky.2 (rl i) (ro i)) : VIn w S x pl po

/-- A list of values lies from p on. -/
def LIn (w : World) (S : Nat → Prop) (l : List V) (p : Option Addr) : Prop :=
  ∀ i y, l[i]? = some y → ∃ a pl cl po co, p = some a ∧ S a.block ∧ Cells w (a.add (i * 6)) (vcells y pl cl po co) ∧ VIn w S y pl po
/-- A list of entries (or members) lies from p on. -/
def EIn (w : World) (S : Nat → Prop) (l : List (Key × V)) (p : Option Addr) : Prop :=
  ∀ i ky, l[i]? = some ky → ∃ a pl cl po co, p = some a ∧ S a.block ∧ Cells w (a.add (i * 7)) (ecells ky.1 ky.2 pl cl po co) ∧ VIn w S ky.2 pl po

theorem VIn.list_ {w : World} {S : Nat → Prop} {x : V} {pl po : Option Addr} (h : VIn w S x pl po) : LIn w S x.list pl := by
  cases h with
  | mk ql qo rl ro cl co dl dO hl hl' ho ho' =>
    intro i y hy
    obtain ⟨a, h1, h2, h3⟩ := hl i y hy
    exact ⟨a, _, _, _, _, h1, h2, h3, hl' i y hy⟩
theorem VIn.obj_ {w : World} {S : Nat → Prop} {x : V} {pl po : Option Addr} (h : VIn w S x pl po) : EIn w S x.obj po := by
  cases h with
  | mk ql qo rl ro cl co dl dO hl hl' ho ho' =>
    intro i y hy
    obtain ⟨a, h1, h2, h3⟩ := ho i y hy
    exact ⟨a, _, _, _, _, h1, h2, h3, ho' i y hy⟩

theorem VIn.of {w : World} {S : Nat → Prop} {x : V} {pl po : Option Addr} (h1 : LIn w S x.list pl) (h2 : EIn w S x.obj po) : VIn w S x pl po := by
  have hl : ∀ i, ∃ q : Option Addr × Nat × Option Addr × Nat, ∀ y, x.list[i]? = some y → ∃ a, pl = some a ∧ S a.block ∧ Cells w (a.add (i * 6)) (vcells y q.1 q.2.1 q.2.2.1 q.2.2.2) ∧ VIn w S y q.1 q.2.2.1 := by
    intro i
    cases hy : x.list[i]? with
    | none => exact ⟨(none, 0, none, 0), fun y e => by cases e⟩
    | some y =>
      obtain ⟨a, p1, c1, p2, c2, e1, e2, e3, e4⟩ := h1 i y hy
      exact ⟨(p1, c1, p2, c2), fun z e => by cases e; exact ⟨a, e1, e2, e3, e4⟩⟩
  have ho : ∀ i, ∃ q : Option Addr × Nat × Option Addr × Nat, ∀ y, x.obj[i]? = some y → ∃ a, po = some a ∧ S a.block ∧ Cells w (a.add (i * 7)) (ecells y.1 y.2 q.1 q.2.1 q.2.2.1 q.2.2.2) ∧ VIn w S y.2 q.1 q.2.2.1 := by
    intro i
    cases hy : x.obj[i]? with
    | none => exact ⟨(none, 0, none, 0), fun y e => by cases e⟩
    | some y =>
      obtain ⟨a, p1, c1, p2, c2, e1, e2, e3, e4⟩ := h2 i y hy
      exact ⟨(p1, c1, p2, c2), fun z e => by cases e; exact ⟨a, e1, e2, e3, e4⟩⟩
  refine VIn.mk (fun i => (Classical.choose (hl i)).1) (fun i => (Classical.choose (hl i)).2.2.1) (fun i => (Classical.choose (ho i)).1) (fun i => (Classical.choose (ho i)).2.2.1)
    (fun i => (Classical.choose (hl i)).2.1) (fun i => (Classical.choose (hl i)).2.2.2) (fun i => (Classical.choose (ho i)).2.1) (fun i => (Classical.choose (ho i)).2.2.2) ?_ ?_ ?_ ?_
  · intro i y hy
    obtain ⟨a, e1, e2, e3, _⟩ := Classical.choose_spec (hl i) y hy
    exact ⟨a, e1, e2, e3⟩
  · intro i y hy
    obtain ⟨_, _, _, _, e4⟩ := Classical.choose_spec (hl i) y hy
    exact e4
  · intro i y hy
    obtain ⟨a, e1, e2, e3, _⟩ := Classical.choose_spec (ho i) y hy
    exact ⟨a, e1, e2, e3⟩
  · intro i y hy
    obtain ⟨_, _, _, _, e4⟩ := Classical.choose_spec (ho i) y hy
    exact e4

/-- Kept in another world, and told with more blocks. -/
theorem VIn.keep {w w' : World} {S S' : Nat → Prop} {x : V} {pl po : Option Addr} (h : VIn w S x pl po) (hA : ∀ b, S b → b < w.heap.size → S' b ∧ w'.heap[b]? = w.heap[b]?) : VIn w' S' x pl po := by
  have hag : Agree S w w' := fun b hb hl => (hA b hb hl).2
  induction h with
  | mk ql qo rl ro cl co dl dO hl hl' ho ho' ih1 ih2 =>
    refine VIn.mk ql qo rl ro cl co dl dO ?_ ih1 ?_ ih2
    · intro i y hy
      obtain ⟨a, h1, h2, h3⟩ := hl i y hy
      have hlt := h3.lt
      rw [block_add] at hlt
      exact ⟨a, h1, (hA _ h2 hlt).1, h3.keep hag (by rw [block_add]; exact h2)⟩
    · intro i y hy
      obtain ⟨a, h1, h2, h3⟩ := ho i y hy
      have hlt := h3.lt
      rw [block_add] at hlt
      exact ⟨a, h1, (hA _ h2 hlt).1, h3.keep hag (by rw [block_add]; exact h2)⟩
theorem VIn.agree {w w' : World} {S : Nat → Prop} {x : V} {pl po : Option Addr} (h : VIn w S x pl po) (hA : Agree S w w') : VIn w' S x pl po := h.keep fun b hb hl => ⟨hb, hA b hb hl⟩
theorem VIn.under {w w' : World} {S : Nat → Prop} {x : V} {pl po : Option Addr} (h : VIn w S x pl po) (hb : Below w.heap.size w w') : VIn w' S x pl po := h.agree (.of_below hb)
theorem VIn.more {w : World} {S S' : Nat → Prop} {x : V} {pl po : Option Addr} (h : VIn w S x pl po) (hs : ∀ b, S b → b < w.heap.size → S' b) : VIn w S' x pl po := h.keep fun b hb hl => ⟨hs b hb hl, rfl⟩
theorem LIn.keep {w w' : World} {S S' : Nat → Prop} {l : List V} {p : Option Addr} (h : LIn w S l p) (hA : ∀ b, S b → b < w.heap.size → S' b ∧ w'.heap[b]? = w.heap[b]?) : LIn w' S' l p := by
  intro i y hy
  obtain ⟨a, pl, cl, po, co, h1, h2, h3, h4⟩ := h i y hy
  have hlt := h3.lt
  rw [block_add] at hlt
  exact ⟨a, pl, cl, po, co, h1, (hA _ h2 hlt).1, h3.keep (S := S) (fun b hb hl => (hA b hb hl).2) (by rw [block_add]; exact h2), h4.keep hA⟩
theorem EIn.keep {w w' : World} {S S' : Nat → Prop} {l : List (Key × V)} {p : Option Addr} (h : EIn w S l p) (hA : ∀ b, S b → b < w.heap.size → S' b ∧ w'.heap[b]? = w.heap[b]?) : EIn w' S' l p := by
  intro i y hy
  obtain ⟨a, pl, cl, po, co, h1, h2, h3, h4⟩ := h i y hy
  have hlt := h3.lt
  rw [block_add] at hlt
  exact ⟨a, pl, cl, po, co, h1, (hA _ h2 hlt).1, h3.keep (S := S) (fun b hb hl => (hA b hb hl).2) (by rw [block_add]; exact h2), h4.keep hA⟩
theorem VIn.drew {w : World} {S : Nat → Prop} {x : V} {pl po : Option Addr} (h : VIn w S x pl po) : VIn w.drew S x pl po := h.keep fun b hb _ => ⟨hb, rfl⟩
theorem VIn.drewN {w : World} {S : Nat → Prop} {x : V} {pl po : Option Addr} (h : VIn w S x pl po) (n : Nat) : VIn (w.drewN n) S x pl po := h.keep fun b hb _ => ⟨hb, rfl⟩
theorem EIn.drew {w : World} {S : Nat → Prop} {l : List (Key × V)} {p : Option Addr} (h : EIn w S l p) : EIn w.drew S l p := h.keep fun b hb _ => ⟨hb, rfl⟩
theorem EIn.drewN {w : World} {S : Nat → Prop} {l : List (Key × V)} {p : Option Addr} (h : EIn w S l p) (n : Nat) : EIn (w.drewN n) S l p := h.keep fun b hb _ => ⟨hb, rfl⟩
theorem LIn.drew {w : World} {S : Nat → Prop} {l : List V} {p : Option Addr} (h : LIn w S l p) : LIn w.drew S l p := h.keep fun b hb _ => ⟨hb, rfl⟩
theorem EIn.agree {w w' : World} {S : Nat → Prop} {l : List (Key × V)} {p : Option Addr} (h : EIn w S l p) (hA : Agree S w w') : EIn w' S l p := h.keep fun b hb hl => ⟨hb, hA b hb hl⟩
theorem EIn.under {w w' : World} {S : Nat → Prop} {l : List (Key × V)} {p : Option Addr} (h : EIn w S l p) (hb : Below w.heap.size w w') : EIn w' S l p := h.agree (.of_below hb)
theorem EIn.more {w : World} {S S' : Nat → Prop} {l : List (Key × V)} {p : Option Addr} (h : EIn w S l p) (hs : ∀ b, S b → b < w.heap.size → S' b) : EIn w S' l p := h.keep fun b hb hl => ⟨hs b hb hl, rfl⟩
theorem LIn.agree {w w' : World} {S : Nat → Prop} {l : List V} {p : Option Addr} (h : LIn w S l p) (hA : Agree S w w') : LIn w' S l p := h.keep fun b hb hl => ⟨hb, hA b hb hl⟩
theorem LIn.under {w w' : World} {S : Nat → Prop} {l : List V} {p : Option Addr} (h : LIn w S l p) (hb : Below w.heap.size w w') : LIn w' S l p := h.agree (.of_below hb)
theorem LIn.more {w : World} {S S' : Nat → Prop} {l : List V} {p : Option Addr} (h : LIn w S l p) (hs : ∀ b, S b → b < w.heap.size → S' b) : LIn w S' l p := h.keep fun b hb hl => ⟨hs b hb hl, rfl⟩
/-- A row of the call's own, of at least m cells; none frozen. -/
def RowB (w : World) (g : Nat) (E : TypeId) (m : Nat) : Prop := ∃ cur : Array Value, w.heap[g]? = some (.cells cur E (0, 0)) ∧ m ≤ cur.size
theorem RowB.lt {w : World} {g m : Nat} {E : TypeId} (h : RowB w g E m) : g < w.heap.size := by
  obtain ⟨cur, hc, _⟩ := h
  exact Blk.lt (t := E) hc
theorem RowB.frozen {w : World} {g m : Nat} {E : TypeId} (h : RowB w g E m) (j : Nat) : w.frozen? ⟨g, j, none⟩ = false := by
  obtain ⟨cur, hc, _⟩ := h
  exact Blk.frozen (t := E) hc j
theorem RowB.some {w : World} {g m : Nat} {E : TypeId} (h : RowB w g E m) {j : Nat} (hj : j < m) : ∃ v, w.cell? ⟨g, j, none⟩ = .some v := by
  obtain ⟨cur, hc, hm⟩ := h
  exact ⟨cur[j], (Blk.cell (t := E) hc j).trans (Array.getElem?_eq_getElem (by omega))⟩
theorem RowB.block {w w' : World} {g m : Nat} {E : TypeId} (h : RowB w g E m) (hb : w'.heap[g]? = w.heap[g]?) : RowB w' g E m := by
  obtain ⟨cur, hc, hm⟩ := h
  exact ⟨cur, hb.trans hc, hm⟩
theorem RowB.under {w w' : World} {g m : Nat} {E : TypeId} (h : RowB w g E m) (hb : Below w.heap.size w w') : RowB w' g E m := h.block (hb.block g h.lt)
theorem RowB.setCell {w : World} {g m : Nat} {E : TypeId} (h : RowB w g E m) (p : Addr) (u : Value) : RowB (w.setCell p u) g E m := by
  obtain ⟨cur, hc, hm⟩ := h
  by_cases hp : g = p.block
  · subst hp
    refine ⟨if p.spot.isSome then cur else cur.setIfInBounds p.off u, ?_, by split <;> simpa using hm⟩
    simp [World.setCell, Array.getElem?_modify, hc]
  · exact ⟨cur, (Below.heap_setCell w p u g hp).trans hc, hm⟩
theorem RowB.ne_ {w : World} {g g' m m' : Nat} {E E' : TypeId} (h : RowB w g E m) (h' : RowB w g' E' m') (hne : E ≠ E') : g ≠ g' := by
  obtain ⟨cur, hc, _⟩ := h
  obtain ⟨cur', hc', _⟩ := h'
  exact Blk.ne_ (t := E) hc hc' hne
theorem RowB.ne_blk {w : World} {g g' m : Nat} {E E' : TypeId} {cs : Array Value} (h : RowB w g E m) (h' : Blk w g' E' cs) (hne : E ≠ E') : g ≠ g' := by
  obtain ⟨cur, hc, _⟩ := h
  exact Blk.ne_ (t := E) hc h' hne
theorem own_form {w : World} {base : Nat} {e : TypeId} {size n : Nat} {v : Value} {xs : List Value} (h : w.ownsRow base e size v n xs) :
    ∃ p c, v = .slice p n c ∧ (0 < n → ∃ g, p = .some ⟨g, 0, none⟩ ∧ base ≤ g ∧ RowB w g e (n * size)) ∧ ∀ g, p = .some ⟨g, 0, none⟩ → Cells w ⟨g, 0, none⟩ xs := by
  rcases h.2 with ⟨rfl, rfl⟩ | ⟨g, cap, cur, rfl, hb, hh, hn, _, hs, _⟩
  · exact ⟨none, 0, rfl, fun h => by omega, fun g hg => by cases hg⟩
  · refine ⟨_, cap, rfl, fun _ => ⟨g, rfl, hb, cur, hh, by rw [hs]; exact Nat.mul_le_mul_right _ hn⟩, fun g' hg' => ?_⟩
    injection hg' with hg'
    injection hg' with hg'
    subst hg'
    exact h.cells (g := g) rfl

theorem Cells.append_left {w : World} {a : Addr} {xs ys : List Value} (h : Cells w a (xs ++ ys)) : Cells w a xs := fun j u hu => h j u (by
  have hj : j < xs.length := (List.getElem?_eq_some_iff.1 hu).1
  rw [List.getElem?_append_left hj]; exact hu)
theorem Cells.append_right {w : World} {a : Addr} {xs ys : List Value} (h : Cells w a (xs ++ ys)) : Cells w (a.add xs.length) ys := fun j u hu => by
  rw [add_add]
  exact h _ u (by rw [List.getElem?_append_right (by omega)]; simpa using hu)
theorem Cells.append {w : World} {a : Addr} {xs ys : List Value} (h : Cells w a xs) (k : Cells w (a.add xs.length) ys) : Cells w a (xs ++ ys) := fun j u hu => by
  rcases Nat.lt_or_ge j xs.length with hj | hj
  · rw [List.getElem?_append_left hj] at hu; exact h j u hu
  · rw [List.getElem?_append_right hj] at hu
    have := k _ u hu
    rw [add_add] at this
    rwa [show xs.length + (j - xs.length) = j by omega] at this
theorem Cells.far {w : World} {a p : Addr} {cs : List Value} (h : Cells w a cs) (u : Value) (hp : ∀ j, j < cs.length → a.add j ≠ p) : Cells (w.setCell p u) a cs := fun j v hv => by
  have hj : j < cs.length := (List.getElem?_eq_some_iff.1 hv).1
  rw [World.cell?_setCell_other w p (a.add j) u (by first | exact hp j hj | exact (hp j hj).symm)]
  exact h j v hv
/-- The six cells one by one, at a place written out. -/
theorem Cells.six {w : World} {g o : Nat} {c0 c1 c2 c3 c4 c5 : Value} (h : Cells w ⟨g, o, none⟩ [c0, c1, c2, c3, c4, c5]) :
    w.cell? ⟨g, o, none⟩ = .some c0 ∧ w.cell? ⟨g, o + 1, none⟩ = .some c1 ∧ w.cell? ⟨g, o + 2, none⟩ = .some c2 ∧ w.cell? ⟨g, o + 3, none⟩ = .some c3 ∧ w.cell? ⟨g, o + 4, none⟩ = .some c4 ∧ w.cell? ⟨g, o + 5, none⟩ = .some c5 := by
  refine ⟨?_, ?_, ?_, ?_, ?_, ?_⟩
  · simpa [add_lit] using h 0 c0 rfl
  · simpa [add_lit] using h 1 c1 rfl
  · simpa [add_lit] using h 2 c2 rfl
  · simpa [add_lit] using h 3 c3 rfl
  · simpa [add_lit] using h 4 c4 rfl
  · simpa [add_lit] using h 5 c5 rfl
theorem add_pos (a : Addr) (n : Nat) (h : 0 < n) : a.add n = ⟨a.block, a.off + n, none⟩ := by
  unfold Addr.add
  rw [if_neg (by omega)]
/-- The cells one by one, as the walk spells them at a place that is not written out. -/
theorem Cells.at6 {w : World} {x : Addr} {c0 c1 c2 c3 c4 c5 : Value} (h : Cells w x [c0, c1, c2, c3, c4, c5]) :
    w.cell? x = .some c0 ∧ w.cell? ⟨x.block, x.off + 1, none⟩ = .some c1 ∧ w.cell? ⟨x.block, x.off + 2, none⟩ = .some c2 ∧ w.cell? ⟨x.block, x.off + 3, none⟩ = .some c3 ∧ w.cell? ⟨x.block, x.off + 4, none⟩ = .some c4 ∧ w.cell? ⟨x.block, x.off + 5, none⟩ = .some c5 := by
  refine ⟨?_, ?_, ?_, ?_, ?_, ?_⟩
  · simpa [add_zero] using h 0 c0 rfl
  · rw [← add_pos _ _ (by omega)]; exact h 1 c1 rfl
  · rw [← add_pos _ _ (by omega)]; exact h 2 c2 rfl
  · rw [← add_pos _ _ (by omega)]; exact h 3 c3 rfl
  · rw [← add_pos _ _ (by omega)]; exact h 4 c4 rfl
  · rw [← add_pos _ _ (by omega)]; exact h 5 c5 rfl
theorem Cells.at7 {w : World} {x : Addr} {c0 c1 c2 c3 c4 c5 c6 : Value} (h : Cells w x [c0, c1, c2, c3, c4, c5, c6]) :
    w.cell? x = .some c0 ∧ w.cell? ⟨x.block, x.off + 1, none⟩ = .some c1 ∧ w.cell? ⟨x.block, x.off + 2, none⟩ = .some c2 ∧ w.cell? ⟨x.block, x.off + 3, none⟩ = .some c3 ∧ w.cell? ⟨x.block, x.off + 4, none⟩ = .some c4 ∧ w.cell? ⟨x.block, x.off + 5, none⟩ = .some c5 ∧ w.cell? ⟨x.block, x.off + 6, none⟩ = .some c6 := by
  refine ⟨?_, ?_, ?_, ?_, ?_, ?_, ?_⟩
  · simpa [add_zero] using h 0 c0 rfl
  · rw [← add_pos _ _ (by omega)]; exact h 1 c1 rfl
  · rw [← add_pos _ _ (by omega)]; exact h 2 c2 rfl
  · rw [← add_pos _ _ (by omega)]; exact h 3 c3 rfl
  · rw [← add_pos _ _ (by omega)]; exact h 4 c4 rfl
  · rw [← add_pos _ _ (by omega)]; exact h 5 c5 rfl
  · rw [← add_pos _ _ (by omega)]; exact h 6 c6 rfl
theorem Cells.at2 {w : World} {x : Addr} {c0 c1 : Value} (h : Cells w x [c0, c1]) : w.cell? x = .some c0 ∧ w.cell? ⟨x.block, x.off + 1, none⟩ = .some c1 := by
  refine ⟨?_, ?_⟩
  · simpa [add_zero] using h 0 c0 rfl
  · rw [← add_pos _ _ (by omega)]; exact h 1 c1 rfl
theorem LIn.cells {w : World} {S : Nat → Prop} : ∀ {l : List V} {a : Addr}, LIn w S l (some a) →
    ∃ cells : List Value, cells.length = l.length * 6 ∧ Cells w a cells ∧ (∀ u ∈ cells, u.oneCell' = true) ∧
      ∀ i y, l[i]? = .some y → ∃ pl cl po co, (∀ j u, (vcells y pl cl po co)[j]? = .some u → cells[i * 6 + j]? = .some u) ∧ VIn w S y pl po
  | [], a, _ => ⟨[], rfl, fun j u h => by simp at h, fun u h => by simp at h, fun i y h => by simp at h⟩
  | x :: l, a, h => by
    obtain ⟨a', pl, cl, po, co, ha, hS, hc, hv⟩ := h 0 x rfl
    injection ha with ha
    subst ha
    have h' : LIn w S l (some (a.add 6)) := fun i y hy => by
      obtain ⟨a', pl, cl, po, co, ha, hS, hc, hv⟩ := h (i + 1) y (by simpa using hy)
      injection ha with ha
      subst ha
      refine ⟨_, pl, cl, po, co, rfl, by rw [block_add]; exact hS, ?_, hv⟩
      rw [add_add]
      rwa [show 6 + i * 6 = (i + 1) * 6 by omega]
    obtain ⟨cells, h1, h2, h3, h4⟩ := h'.cells
    refine ⟨vcells x pl cl po co ++ cells, by simp [h1]; omega, ?_, ?_, ?_⟩
    · refine Cells.append (by simpa [Addr.add] using hc) h2
    · intro u hu
      rcases List.mem_append.1 hu with hu | hu
      · simp at hu
        rcases hu with rfl | rfl | rfl | rfl | rfl | rfl <;> rfl
      · exact h3 u hu
    · intro i y hy
      match i, hy with
      | 0, hy =>
        simp at hy
        subst hy
        refine ⟨pl, cl, po, co, fun j u hu => ?_, hv⟩
        have hj : j < 6 := (List.getElem?_eq_some_iff.1 hu).1
        rw [List.getElem?_append_left (by simp; omega)]
        simpa using hu
      | i + 1, hy =>
        obtain ⟨pl', cl', po', co', hcc, hvv⟩ := h4 i y (by simpa using hy)
        refine ⟨pl', cl', po', co', fun j u hu => ?_, hvv⟩
        rw [List.getElem?_append_right (by simp; omega)]
        have := hcc j u hu
        simp only [List.length_cons, List.length_nil]
        rwa [show (i + 1) * 6 + j - (0 + 1 + 1 + 1 + 1 + 1 + 1) = i * 6 + j by omega]
theorem EIn.cells {w : World} {S : Nat → Prop} : ∀ {l : List (Key × V)} {a : Addr}, EIn w S l (some a) →
    ∃ cells : List Value, cells.length = l.length * 7 ∧ Cells w a cells ∧ (∀ u ∈ cells, u.oneCell' = true) ∧
      ∀ i y, l[i]? = .some y → ∃ pl cl po co, (∀ j u, (ecells y.1 y.2 pl cl po co)[j]? = .some u → cells[i * 7 + j]? = .some u) ∧ VIn w S y.2 pl po
  | [], a, _ => ⟨[], rfl, fun j u h => by simp at h, fun u h => by simp at h, fun i y h => by simp at h⟩
  | x :: l, a, h => by
    obtain ⟨a', pl, cl, po, co, ha, hS, hc, hv⟩ := h 0 x rfl
    injection ha with ha
    subst ha
    have h' : EIn w S l (some (a.add 7)) := fun i y hy => by
      obtain ⟨a', pl, cl, po, co, ha, hS, hc, hv⟩ := h (i + 1) y (by simpa using hy)
      injection ha with ha
      subst ha
      refine ⟨_, pl, cl, po, co, rfl, by rw [block_add]; exact hS, ?_, hv⟩
      rw [add_add]
      rwa [show 7 + i * 7 = (i + 1) * 7 by omega]
    obtain ⟨cells, h1, h2, h3, h4⟩ := h'.cells
    refine ⟨ecells x.1 x.2 pl cl po co ++ cells, by simp [h1]; omega, ?_, ?_, ?_⟩
    · refine Cells.append (by simpa [Addr.add] using hc) h2
    · intro u hu
      rcases List.mem_append.1 hu with hu | hu
      · simp at hu
        rcases hu with rfl | rfl | rfl | rfl | rfl | rfl | rfl <;> rfl
      · exact h3 u hu
    · intro i y hy
      match i, hy with
      | 0, hy =>
        simp at hy
        subst hy
        refine ⟨pl, cl, po, co, fun j u hu => ?_, hv⟩
        have hj : j < 7 := (List.getElem?_eq_some_iff.1 hu).1
        rw [List.getElem?_append_left (by simp; omega)]
        simpa using hu
      | i + 1, hy =>
        obtain ⟨pl', cl', po', co', hcc, hvv⟩ := h4 i y (by simpa using hy)
        refine ⟨pl', cl', po', co', fun j u hu => ?_, hvv⟩
        rw [List.getElem?_append_right (by simp; omega)]
        have := hcc j u hu
        simp only [List.length_cons, List.length_nil]
        rwa [show (i + 1) * 7 + j - (0 + 1 + 1 + 1 + 1 + 1 + 1 + 1) = i * 7 + j by omega]
theorem EIn.nil (w : World) (S : Nat → Prop) (p : Option Addr) : EIn w S [] p := fun i ky h => by simp at h
theorem LIn.nil (w : World) (S : Nat → Prop) (p : Option Addr) : LIn w S [] p := fun i ky h => by simp at h
end Go.Proofs.Ytajcmpafbcpicaa
