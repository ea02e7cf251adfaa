/- A region that draws its order: its slots and its blocks, in whatever order its operations come up. No program in sight. No conditions. -/
import Derived.Test.YtnngkjjabccglaaRegInv
import Derived.Test.YtnngkjjabccglaaTMem
set_option linter.unusedVariables false
set_option linter.unusedSimpArgs false
namespace Go.Proofs.Ytnngkjjabccglaa
open Go.RowKit

/-- Slot t holds v. -/
def Slot (a : Act) (t : Nat) (v : Value) : Prop := a.tmps[t]? = some v
/-- But for the slots of D the frame is as it was. -/
structure Off (D : List Nat) (a0 a : Act) : Prop where
  defers : a.defers = a0.defers
  size : a.tmps.size = a0.tmps.size
  same : ∀ t, t ∉ D → a.tmps[t]? = a0.tmps[t]?
theorem Off.refl (D : List Nat) (a : Act) : Off D a a := ⟨rfl, rfl, fun _ _ => rfl⟩
theorem Off.put {D : List Nat} {a0 a : Act} (h : Off D a0 a) (d : Nat) (hd : d ∈ D) (v : Value) : Off D a0 (a.put (some d) v) := by
  refine ⟨h.defers, by simp [Act.put, h.size], fun t ht => ?_⟩
  have hne : d ≠ t := fun e => ht (e ▸ hd)
  simp only [Act.put, Array.getElem?_setIfInBounds_ne hne]
  exact h.same t ht
theorem Slot.put {a : Act} {d : Nat} (v : Value) (h : d < a.tmps.size) : Slot (a.put (some d) v) d v := by
  unfold Slot
  simp [Act.put, h]
theorem Slot.far {a : Act} {d t : Nat} {u : Value} (h : Slot a t u) (v : Value) (hne : d ≠ t) : Slot (a.put (some d) v) t u := by
  unfold Slot at *
  simp only [Act.put, Array.getElem?_setIfInBounds_ne hne]
  exact h
theorem foldl_size (f : Nat → Value) : ∀ (l : List Nat) (x : Array Value), (l.foldl (fun x d => x.setIfInBounds d (f d)) x).size = x.size
  | [], x => rfl
  | d :: l, x => by rw [List.foldl_cons, foldl_size f l]; simp
theorem foldl_get (f : Nat → Value) : ∀ (l : List Nat) (x : Array Value) (t : Nat), t < x.size → (l.foldl (fun x d => x.setIfInBounds d (f d)) x)[t]? = if t ∈ l then some (f t) else x[t]?
  | [], x, t, h => by simp
  | d :: l, x, t, h => by
    rw [List.foldl_cons, foldl_get f l _ t (by simpa using h)]
    by_cases h1 : t ∈ l
    · simp [h1]
    · by_cases h2 : t = d
      · subst h2; simp [h1, h]
      · rw [if_neg h1, if_neg (by simp [h1, h2]), Array.getElem?_setIfInBounds_ne (Ne.symm h2)]
/-- The frame at the region's end, written out from the frame at its beginning. -/
theorem Off.act {D : List Nat} {a0 a : Act} (h : Off D a0 a) (f : Nat → Value) (hf : ∀ d ∈ D, Slot a d (f d)) : a = ⟨D.foldl (fun x d => x.setIfInBounds d (f d)) a0.tmps, a0.defers⟩ := by
  obtain ⟨tm, df⟩ := a
  have h1 : df = a0.defers := h.defers
  have h2 : tm = D.foldl (fun x d => x.setIfInBounds d (f d)) a0.tmps := by
    have hs : tm.size = a0.tmps.size := h.size
    refine Array.ext (by rw [foldl_size, hs]) fun i hi1 hi2 => ?_
    have h3 : tm[i]? = (D.foldl (fun x d => x.setIfInBounds d (f d)) a0.tmps)[i]? := by
      rw [foldl_get f D _ i (by omega)]
      by_cases hm : i ∈ D
      · rw [if_pos hm]; exact hf i hm
      · rw [if_neg hm]; exact h.same i hm
    rw [Array.getElem?_eq_getElem hi1, Array.getElem?_eq_getElem hi2] at h3
    exact Option.some.inj h3
  rw [h1, h2]

/-- A block that the operation 'tag' owns. -/
def At (own : Nat → Nat) (W : World) (tag B : Nat) (T : TypeId) (p : Nat → Array Value → Prop) : Prop := ∃ b cs, own b = tag ∧ B ≤ b ∧ Blk W b T cs ∧ p b cs
/-- What no one but 'tag' owns is as it was. -/
def Stay (own : Nat → Nat) (W : World) (own' : Nat → Nat) (W' : World) (tag : Nat) : Prop := ∀ b T cs, own b ≠ tag → Blk W b T cs → own' b = own b ∧ Blk W' b T cs
theorem At.stay {own own' : Nat → Nat} {W W' : World} {tag tag' B : Nat} {T : TypeId} {p : Nat → Array Value → Prop} (h : At own W tag B T p) (s : Stay own W own' W' tag') (hne : tag ≠ tag') : At own' W' tag B T p := by
  obtain ⟨b, cs, h1, h2, h3, h4⟩ := h
  obtain ⟨e1, e2⟩ := s b T cs (by rw [h1]; exact hne) h3
  exact ⟨b, cs, e1.trans h1, h2, e2, h4⟩
theorem At.imp {own : Nat → Nat} {W : World} {tag B : Nat} {T : TypeId} {p q : Nat → Array Value → Prop} (h : At own W tag B T p) (hpq : ∀ b cs, p b cs → q b cs) : At own W tag B T q := by
  obtain ⟨b, cs, h1, h2, h3, h4⟩ := h
  exact ⟨b, cs, h1, h2, h3, hpq b cs h4⟩
/-- A fact on a slot and a block, kept while another slot is written and blocks of others turn. -/
theorem At.keepS {own own' : Nat → Nat} {W W' : World} {tag tag' B t d : Nat} {T : TypeId} {a : Act} {v : Nat → Value} {u : Value} {q : Nat → Array Value → Prop} (h : At own W tag B T fun b cs => Slot a t (v b) ∧ q b cs) (s : Stay own W own' W' tag') (hne : tag ≠ tag') (hd : d ≠ t) :
    At own' W' tag B T fun b cs => Slot (a.put (some d) u) t (v b) ∧ q b cs := (h.stay s hne).imp fun b cs ⟨h1, h2⟩ => ⟨h1.far _ hd, h2⟩
theorem stay_refl (own : Nat → Nat) (W : World) (tag : Nat) : Stay own W own W tag := fun b T cs _ h => ⟨rfl, h⟩
/-- The owner of a new block. -/
def ownNew (own : Nat → Nat) (W : World) (tag : Nat) : Nat → Nat := fun b => if b < W.heap.size then own b else tag
theorem stay_below {own : Nat → Nat} {W W' : World} (hb : Below W.heap.size W W') (tag tag' : Nat) : Stay own W (ownNew own W tag) W' tag' := fun b T cs _ h => ⟨by simp [ownNew, h.lt], h.under hb⟩
theorem stay_set {own : Nat → Nat} {W : World} {p : Addr} {tag : Nat} (v : Value) (hp : own p.block = tag) : Stay own W own (W.setCell p v) tag := fun b T cs hne h => ⟨rfl, h.far (fun e => hne (e ▸ hp)) v⟩
theorem ownNew_new {own : Nat → Nat} {W : World} {tag b : Nat} (h : W.heap.size ≤ b) : ownNew own W tag b = tag := by simp [ownNew, Nat.not_lt.2 h]

/-- One obligation for each operation. -/
def EachOp (p : Nat → Oper → Prop) : Nat → List Oper → Prop
  | _, [] => True
  | n, o :: l => p n o ∧ EachOp p (n + 1) l
theorem EachOp.get {p : Nat → Oper → Prop} : ∀ {l : List Oper} {n : Nat}, EachOp p n l → ∀ i o, l[i]? = some o → p (n + i) o
  | [], n, _, i, o, h => by simp at h
  | x :: l, n, ⟨h1, h2⟩, 0, o, h => by simp at h; subst h; exact h1
  | x :: l, n, ⟨h1, h2⟩, i + 1, o, h => by
    have := h2.get i o (by simpa using h)
    rwa [show n + 1 + i = n + (i + 1) by omega] at this
/-- What is owed at an operation. -/
def Owed (P : Program) (ops : Array Oper) (Q : Exit → Act → World → Prop) (I : (Nat → Prop) → Act → World → Prop) (i : Nat) (o : Oper) : Prop :=
  ∀ (L : Nat → Prop) a w, I L a w → ¬ L i → (∀ j, j ∈ waitsFor o → L j) → ∀ K : Act → World → Prop, (∀ a' w', I (fun j => j = i ∨ L j) a' w' → K a' w') →
    if Region.wanted o (yielded ops a.tmps) = true then Oper.wp P o a w K Q else K (a.put o.dst undef) w
/-- **A region that draws its order**: what holds before and behind, operation by operation. -/
theorem wp_region_owed {P : Program} {Q : Exit → Act → World → Prop} {id : Nat} {l : List Oper} {a : Act} {w : World} (I : (Nat → Prop) → Act → World → Prop) (hm : P.follows .mixedOrders = true) (hb : backB l.toArray = true) (h0 : I (fun _ => False) a w.drew)
    (hs : EachOp (Owed P l.toArray Q I) 0 l) (hd : ∀ L a w, I L a w → (∀ i, i < l.length → L i) → Q .normal a w) : (Code.region id l.toArray true).wp P Q a w := by
  refine wp_region_inv I hm hb h0 (fun i o ho L a w hI hn hw => ?_) (fun L a w hI hall => hd L a w hI (fun i hi => hall i (by simpa using hi)))
  have h := hs.get i o (by simpa using ho)
  rw [Nat.zero_add] at h
  exact wpOp_do ho (h L a w hI hn hw _ fun _ _ h => h)
/-- .. said of the frame and the world at the region's beginning. -/
theorem wp_region_from {P : Program} {Q : Exit → Act → World → Prop} {id : Nat} {l : List Oper} {a : Act} {w : World} (I : Act → World → (Nat → Prop) → Act → World → Prop) (hm : P.follows .mixedOrders = true) (hb : backB l.toArray = true) (h0 : I a w (fun _ => False) a w.drew)
    (hs : ∀ J, J = I a w → EachOp (Owed P l.toArray Q J) 0 l) (hd : ∀ L a' w', I a w L a' w' → (∀ i, i < l.length → L i) → Q .normal a' w') : (Code.region id l.toArray true).wp P Q a w :=
  wp_region_owed (I a w) hm hb h0 (hs _ rfl) hd
theorem got {L : Nat → Prop} {i j : Nat} (h : j = i ∨ L j) (hne : (j == i) = false) : L j := h.resolve_left (fun e => by subst e; simp at hne)

/-- The operations that yield a known value: number, slot, value. -/
def Tabl (tab : List (Nat × Nat × Value)) (L : Nat → Prop) (a : Act) : Prop := ∀ i d v, (i, d, v) ∈ tab → L i → Slot a d v
theorem Tabl.none (tab : List (Nat × Nat × Value)) (a : Act) : Tabl tab (fun _ => False) a := fun _ _ _ _ h => h.elim
theorem Tabl.put {tab : List (Nat × Nat × Value)} {L : Nat → Prop} {a : Act} {i d : Nat} {v : Value} (h : Tabl tab L a) (hs : d < a.tmps.size) (h1 : ∀ j e u, (j, e, u) ∈ tab → j = i → e = d ∧ u = v) (h2 : ∀ j e u, (j, e, u) ∈ tab → e = d → j = i) :
    Tabl tab (fun j => j = i ∨ L j) (a.put (some d) v) := by
  intro j e u hm hj
  by_cases he : e = d
  · obtain rfl := h2 j e u hm he
    obtain ⟨rfl, rfl⟩ := h1 j e u hm rfl
    exact Slot.put _ hs
  · have hji : j ≠ i := fun e' => he (h1 j e u hm e').1
    exact (h j e u hm (hj.resolve_left hji)).far _ (Ne.symm he)
theorem Tabl.stay {tab : List (Nat × Nat × Value)} {L : Nat → Prop} {a : Act} {i : Nat} (h : Tabl tab L a) (h1 : ∀ j e u, (j, e, u) ∈ tab → j ≠ i) : Tabl tab (fun j => j = i ∨ L j) a := fun j e u hm hj => h j e u hm (hj.resolve_left (h1 j e u hm))
theorem Tabl.far {tab : List (Nat × Nat × Value)} {L : Nat → Prop} {a : Act} {i d : Nat} {v : Value} (h : Tabl tab L a) (h1 : ∀ j e u, (j, e, u) ∈ tab → j ≠ i ∧ e ≠ d) : Tabl tab (fun j => j = i ∨ L j) (a.put (some d) v) := fun j e u hm hj =>
  (h j e u hm (hj.resolve_left (h1 j e u hm).1)).far _ (Ne.symm (h1 j e u hm).2)
theorem orF {i j : Nat} {p : Prop} (h : (j == i) = false) : (j = i ∨ p) = p := by
  have : j ≠ i := by simpa using h
  simp [this]
end Go.Proofs.Ytnngkjjabccglaa
