/- The document's Flat of a shape: its entries, from the left. Conditions: the shape lies in memory, in old blocks; the entries are few enough for memory. -/
import Derived.Test.YtajcmpafbcpicaaOwn
import Derived.Test.YtajcmpafbcpicaaRef2
import Derived.Laws.OwnMore
set_option linter.unusedVariables false
set_option linter.unusedSimpArgs false
namespace Go.Proofs.Ytajcmpafbcpicaa
open Go.RowKit

theorem run_append_none {P : Program} {w : World} {base : Nat} {t ty e : TypeId} {i : TypeInfo} {size : Nat} (ht : P.underlying t = some (.slice e)) (hi : P.info? e = some i)
    {v : Value} {n : Nat} {xs : List Value} (hown : w.ownsRow base e size v n xs) (c : Nat) : (Builtin.append_ #[t, t] ty #[v, .slice none 0 c]).run P w = .ok v w := by
  rcases hown.2 with ⟨rfl, rfl⟩ | ⟨g, cap, cur, rfl, _, _, hnc, _⟩
  · simp [Builtin.append_, run_underlying ht, sizeOf, typeInfo, hi, Builtin.lenOf, Builtin.firstCells]
  · simp [Builtin.append_, run_underlying ht, sizeOf, typeInfo, hi, Builtin.lenOf, Builtin.firstCells, hnc, storeCells]

/-- A list of entries that is read: its row may lie anywhere, its values lie in S. -/
def ERead (w : World) (S : Nat → Prop) (es : List En) (p : Option Addr) : Prop := ∃ cells, (∀ a, p = some a → Cells w a cells) ∧ ECells (VIn w S) es cells ∧ (p = none → es = [])
theorem ERead.under {w w1 : World} {S : Nat → Prop} {es : List En} {p : Option Addr} (h : ERead w S es p) (hb : Below w.heap.size w w1) (hne : es ≠ []) : ERead w1 S es p := by
  obtain ⟨cells, h1, h2, h3⟩ := h
  refine ⟨cells, fun a ha => ?_, h2.imp fun x pl po h => h.under hb, h3⟩
  have hc := h1 a ha
  have hpos : 0 < cells.length := by
    rw [h2.length]
    have := List.length_pos_iff.2 hne
    omega
  obtain ⟨u, l, rfl⟩ : ∃ u l, cells = u :: l := by
    cases cells with
    | nil => simp at hpos
    | cons u l => exact ⟨u, l, rfl⟩
  have hlt := hc.lt
  exact hc.keep (S := fun b => b < w.heap.size) (fun b hb' hl => hb.block b hl) hlt
theorem ERead.ein {w : World} {S : Nat → Prop} {es : List En} {p : Option Addr} (h : ERead w S es p) : EIn w (fun _ => True) es p := by
  obtain ⟨cells, h1, h2, h3⟩ := h
  cases p with
  | none => rw [h3 rfl]; exact EIn.nil _ _ _
  | some a => exact EIn.of_ecells (h1 a rfl) (h2.imp fun x pl po h => h.more fun b _ _ => trivial) trivial
theorem EIn.read {w : World} {S : Nat → Prop} {es : List En} {p : Option Addr} (h : EIn w S es p) : ERead w S es p := h.source
theorem EOwn.read {w : World} {B : Nat} {S : Nat → Prop} {p : Option Addr} {n c : Nat} {es : List En} (h : EOwn w B S (.slice p n c) es) : ERead w S es p := by
  obtain ⟨cells, h1, h2⟩ := h
  rcases h1.2 with ⟨e, h0⟩ | ⟨g, cap, cur, e, hb, hh, hn, _⟩
  · have : es = [] := List.eq_nil_of_length_eq_zero h0
    subst this
    injection e with e1
    subst e1
    exact ⟨[], (fun a h => by cases h), ECells.nil, fun _ => rfl⟩
  · injection e with e1 e2 e3
    subst e1
    refine ⟨cells, fun a ha => ?_, h2.imp fun x pl po h => h.more fun b hb _ => hb.1, fun h => by cases h⟩
    injection ha with ha
    subst ha
    exact h1.cells (g := g) rfl

theorem run_append_entries {w : World} {B : Nat} {S : Nat → Prop} {v : Value} {es es' : List En} {p : Option Addr} {c : Nat} (ty : TypeId) (h : EOwn w B S v es) (hB : B ≤ w.heap.size) (hr : ERead w S es' p)
    (hSB : ∀ b, S b → b < B) (hlen : (es.length + es'.length) * 104 ≤ 140737488355328) :
    ∃ v' w', (Builtin.append_ #[26, 26] ty #[v, .slice p es'.length c]).run Try.prog w = .ok v' w' ∧ EOwn w' B S v' (es ++ es') ∧ w.grownBy w' v.ownBlock := by
  obtain ⟨i0, z0, hi, hz0, hz1, hz2, hz3⟩ := info_parts2 infoE
  obtain ⟨cells, ho, hc⟩ := h
  obtain ⟨news, hn1, hn2, hn3⟩ := hr
  cases p with
  | none =>
    obtain rfl := hn3 rfl
    have hrun := run_append_none (P := Try.prog) (ty := ty) Try.underlying26 hi ho c
    exact ⟨v, w, hrun, by rw [List.append_nil]; exact ⟨cells, ho, hc⟩, rfl, rfl, rfl, Nat.le_refl _, fun _ _ _ => rfl⟩
  | some a =>
    obtain ⟨v', w', hrun, h2, h3, _, h5⟩ := run_append_own_at (P := Try.prog) w B 26 ty 44 i0 z0 7 104 Try.underlying26 hi hz0 hz1 hz2 hz3 (by decide) v es.length cells ho a es'.length c news hn2.length (hn1 a rfl) hn2.one (by simp only [maxLen]; omega) hlen hB
    have hown : ∀ b, v.ownBlock = some b → B ≤ b := fun b e => (ho.lt b e).1
    exact ⟨v', w', hrun, EOwn.push ho hc (hn2.imp fun x pl po h => h.more fun b hb _ => ⟨hb, fun e => by have := hown b e; have := hSB b hb; omega⟩) h2 h3 h5, h3⟩

theorem wpList_append_entries {ops : Array Oper} {rest : List Oper} {o : Oper} {a : Act} {Q : Exit → Act → World → Prop} {w : World} (hgd : o.guard = none) (s x : Operand)
    (ho : o.op = .call { callee := .builtin .append, args := #[s, x], argTypes := #[26, 26] })
    {B : Nat} {S : Nat → Prop} {v : Value} {es es' : List En} {p : Option Addr} {m c : Nat} (hs : a.eval s = v) (hx : a.eval x = .slice p m c) (hm : m = es'.length) (hown : EOwn w B S v es) (hB : B ≤ w.heap.size) (hr : ERead w S es' p)
    (hSB : ∀ b, S b → b < B) (hlen : (es.length + es'.length) * 104 ≤ 140737488355328)
    (h : ∀ v' w', EOwn w' B S v' (es ++ es') → w.grownBy w' v.ownBlock → wpList Try.prog ops Q rest (a.put o.dst v') w') : wpList Try.prog ops Q (o :: rest) a w := by
  subst hm
  refine wpList_plain hgd fun K hK => ?_
  obtain ⟨v', w', hrun, h2, h3⟩ := run_append_entries (c := c) o.type hown hB hr hSB hlen
  unfold Oper.wp execOp
  simp only [ho, resolve, invoke, builtin, Sem.run_bind, Sem.run_pure, Result.andThen_ok, List.map_toArray, List.map_cons, List.map_nil, hs, hx, hrun]
  exact hK _ _ (h v' w' h2 h3)

def FlatPost (s : Sh) (S : Nat → Prop) (w : World) (e : Ending) (w' : World) : Prop :=
  ∃ p c, e = .returned (.slice p s.flat.length c) ∧ ERead w' S s.flat p ∧ Below w.heap.size w w'

theorem flats_step {ks : List Sh} {i : Nat} {k : Sh} (h : ks[i]? = some k) : flats (ks.take (i + 1)) = flats (ks.take i) ++ k.flat := by
  rw [List.take_add_one, h, flats_append]; simp [flats]
theorem flats_take_le (ks : List Sh) (i : Nat) : (flats (ks.take i)).length ≤ (flats ks).length := by
  have := flats_append (ks.take i) (ks.drop i)
  rw [List.take_append_drop] at this
  rw [this, List.length_append]; omega

/-- Flat's own state: the shape in its box, and what has been gathered. -/
structure FlatInv (w : World) (S : Nat → Prop) (pe : Option Addr) (n : Nat) (ce : Nat) (pk : Option Addr) (m : Nat) (ck : Nat) (v : Value) (es : List En) (wr : World) : Prop where
  blk : Blk wr w.heap.size 28 #[.slice pe n ce, .slice pk m ck]
  own : EOwn wr (w.heap.size + 1) S v es
  bel : Below w.heap.size w wr

set_option maxHeartbeats 1000000 in
theorem rflat_any (s : Sh) : s.Thin → s.flat.length * 104 ≤ 140737488355328 → ∀ (w : World) (S : Nat → Prop) (pe : Option Addr) (ce : Nat) (pk : Option Addr) (ck : Nat), (∀ b, S b → b < w.heap.size) → SIn w S s pe pk →
    Calls Try.prog 43 #[.agg #[.slice pe s.es.length ce, .slice pk s.kids.length ck]] w (FlatPost s S w) := by
  intro ht
  induction ht with
  | @mk es ks hel hkl hks ih =>
  intro hlen w S pe ce pk ck hS hs
  have hk := hs.kids_
  have he := hs.ents
  simp only [Sh.es, Sh.kids] at hk he ⊢
  have hbx := Boxed.new w pe es.length ce pk ks.length ck
  cases ks with
  | nil =>
    have Hbx := Lib.hid hbx
    have He := Lib.hid he
    clear hk hs ih he hbx
    simp only [List.length_nil] at Hbx ⊢
    go_enter Try.func43, Try.ntmps43
    go_wp2_with fail
    go_ret
    refine ⟨pe, ce, by simp [Sh.flat_leaf], ?_, Hbx.out.bel⟩
    rw [Sh.flat_leaf]
    exact (He.out.under (Hbx.out.bel)).read
  | cons k0 l0 =>
    have hflat : (Sh.mk es (k0 :: l0)).flat = flats (k0 :: l0) := by simp [Sh.flat]
    have hz : ((((k0 :: l0).length : Nat) : Int) == 0) = false := by simp; omega
    rw [hflat] at hlen
    have Hflat := Lib.hid hflat
    have Hk := Lib.hid hk
    have Ih := Lib.hid ih
    have HS := Lib.hid hS
    clear hk hs ih he hflat hks hS
    generalize hks : k0 :: l0 = ks at *
    clear hks
    go_enter Try.func43, Try.ntmps43
    go_wp2_with fail
    have Hinv : Hid (FlatInv w S pe es.length ce pk ks.length ck (.slice none 0 0) (flats (ks.take 0)) (w.alloc (.cells #[.slice pe es.length ce, .slice pk ks.length ck] 28))) := ⟨hbx.blk, by simp only [List.take_zero, flats]; exact EOwn.nil _ _ _, hbx.bel⟩
    clear hbx
    go_loopw [3, 4] (fun vo vi wr => ∃ i : Nat, i ≤ ks.length ∧ vi = .int .i64 i ∧ Hid (FlatInv w S pe es.length ce pk ks.length ck vo (flats (ks.take i)) wr)) (fun vo vi _ => ks.length - (intOf vi).toNat)
    case atStart => exact ⟨0, by omega, rfl, Hinv⟩
    case round =>
      obtain ⟨i, hi, rfl, Hr⟩ := hrel
      obtain ⟨po, co, rfl⟩ := Hr.out.own.form
      have b1 := Hr.out.blk.cell 1
      simp at b1
      by_cases hlt : i < ks.length
      · obtain ⟨k, hk⟩ : ∃ k, ks[i]? = some k := ⟨_, List.getElem?_eq_getElem hlt⟩
        have hst := flats_step hk
        have hle := flats_take_le ks (i + 1)
        rw [hst, List.length_append] at hle
        obtain ⟨a, qe, de, qk, dk, rfl, c0, c1, hsk⟩ := Hk.out.cells hk
        have hax := World.block_lt_of_cell? w _ c0
        have c0' := Hr.out.bel.cell (p := a.add (i * 2)) hax
        have c1' := Hr.out.bel.cell (p := ⟨(a.add (i * 2)).block, (a.add (i * 2)).off + 1, none⟩) hax
        rw [c0] at c0'
        rw [c1] at c1'
        have hc := Ih.out k (List.mem_of_getElem? hk) (by omega) wr S qe de qk dk (fun b hb => Nat.lt_of_lt_of_le (HS.out b hb) Hr.out.bel.size) (hsk.under Hr.out.bel)
        have Hc := Lib.hid hc
        have Hst := Lib.hid hst
        clear c0 c1 hsk hc hst hk
        go_wp2_with (first
          | (go_at_call 43; refine Hc.out.mono ?_; rintro e w1 ⟨p1, c1, rfl, hr1, hb1⟩; have Hb1 := Lib.hid hb1; have Hr1 := Lib.hid hr1; clear hb1 hr1)
          | (at_builtin; refine wpList_append_entries rfl _ _ rfl (B := w.heap.size + 1) (S := S) (v := .slice po (flats (ks.take i)).length co) (es := flats (ks.take i)) (es' := k.flat) rfl rfl rfl (Hr.out.own.under Hb1.out) (by have := Hr.out.blk.lt; have := Hb1.out.size; omega) Hr1.out (fun b hb => by have := HS.out b hb; omega) (by omega) ?_; intro v2 w2 hown2 hgr2; have Hown2 := Lib.hid hown2; have Hgr2 := Lib.hid hgr2; clear hown2 hgr2))
        go_roundw
        case measure => simp [intOf]; omega
        case rel =>
          refine ⟨i + 1, by omega, by go_num, ?_⟩
          rw [Hst.out]
          have hb1 := Hr.out.bel
          have hob : ∀ b, (Value.slice po (flats (ks.take i)).length co).ownBlock = some b → w.heap.size + 1 ≤ b := by
            obtain ⟨cells, ho, _⟩ := Hr.out.own
            exact fun b e => (ho.lt b e).1
          have hlt1 := Hr.out.blk.lt
          have hs1 := Hb1.out.size
          refine ⟨?_, Hown2.out, ?_⟩
          · exact (Hr.out.blk.under Hb1.out).grown Hgr2.out fun e => by have := hob _ e.symm; omega
          · exact (below_then Hr.out.bel Hr.out.bel.size Hb1.out).grown Hgr2.out (by omega) fun g hg => by have := hob g hg; omega
      · obtain rfl : i = ks.length := by omega
        go_wp2_with fail
        go_ret
        have hfin := Hr.out.own
        rw [List.take_length] at hfin ⊢
        refine ⟨po, co, ?_, ?_, Hr.out.bel⟩
        · rw [Hflat.out]; rfl
        · rw [Hflat.out]; exact hfin.read
end Go.Proofs.Ytajcmpafbcpicaa
