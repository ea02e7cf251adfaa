/- value.Copy hands back a value that reads as the one that it was given, in memory of its own. Condition: the value lies in memory, and none of its lists is longer than memory bears. -/
import Derived.Test.YtajcmpafbcpicaaClone
import Derived.Test.YtajcmpafbcpicaaCopyMem
import Derived.Outline
import Derived.Deep.RegionWith
import Derived.Deep.DeepCutAuto
set_option linter.unusedVariables false
set_option linter.unusedSimpArgs false
namespace Go.Proofs.Ytajcmpafbcpicaa
open Go.RowKit

theorem below_of_drew {B : Nat} {w w' : World} (h : Below B w.drew w') : Below B w w' := ⟨h.os, h.tape, h.output, h.size, h.block⟩

def CopyPost (x : V) (w : World) (e : Ending) (w' : World) : Prop :=
  ∃ pl cl po co, e = .returned (.agg #[.int .i64 x.kind, .bool x.bool, .int .i64 x.num, .string x.text, .slice pl x.list.length cl, .slice po x.obj.length co]) ∧ VIn w' (fun b => w.heap.size ≤ b) x pl po ∧ Below w.heap.size w w'

abbrev zeroV : Array Value := #[.int .i64 0, .bool false, .int .i64 0, .string { data := #[] }, .slice none 0 0, .slice none 0 0]
def cSn (w : World) (g1 g2 : Nat) (b : Nat) : Prop := w.heap.size + 2 ≤ b ∧ b ≠ g1 ∧ b ≠ g2
def cSo (w : World) (S : Nat → Prop) (b : Nat) : Prop := S b ∧ b < w.heap.size

structure CopyInv (w : World) (S : Nat → Prop) (k : Int) (b : Bool) (n : Int) (t : ByteArray) (l : List V) (o : List (Key × V)) (p1 p2 : Option Addr) (c1 c2 g1 g2 i j : Nat) (wr : World) : Prop where
  bx : Blk wr w.heap.size 42 #[.int .i64 k, .bool b, .int .i64 n, .string t, .slice p1 l.length c1, .slice p2 o.length c2]
  rs : Blk wr (w.heap.size + 1) 42 zeroV
  lr : LRow wr (w.heap.size + 2) (fun q b => if q < i then cSn w g1 g2 b else cSo w S b) l p1 g1
  orw : ORow wr (w.heap.size + 2) (fun q b => if q < j then cSn w g1 g2 b else cSo w S b) o p2 g2
  bel : Below w.heap.size w wr
  hg1 : g1 < wr.heap.size
  hg2 : g2 < wr.heap.size

section
variable {w wr w1 : World} {S : Nat → Prop} {k : Int} {b : Bool} {n : Int} {t : ByteArray} {l : List V} {o : List (Key × V)} {p1 p2 : Option Addr} {c1 c2 g1 g2 i j : Nat}
theorem CopyInv.under (h : CopyInv w S k b n t l o p1 p2 c1 c2 g1 g2 i j wr) (hb : Below wr.heap.size wr w1) : CopyInv w S k b n t l o p1 p2 c1 c2 g1 g2 i j w1 :=
  ⟨h.bx.under hb, h.rs.under hb, h.lr.under hb, h.orw.under hb, below_then h.bel h.bel.size hb, Nat.lt_of_lt_of_le h.hg1 hb.size, Nat.lt_of_lt_of_le h.hg2 hb.size⟩
theorem CopyInv.stepL {y : V} {pl po : Option Addr} {cl co : Nat} (h : CopyInv w S k b n t l o p1 p2 c1 c2 g1 g2 i j wr) (hb : Below wr.heap.size wr w1)
    (hy : l[i]? = some y) (hv : VIn w1 (fun b => wr.heap.size ≤ b) y pl po) :
    CopyInv w S k b n t l o p1 p2 c1 c2 g1 g2 (i + 1) j (set6 w1 g1 (i * 6) (.int .i64 y.kind) (.bool y.bool) (.int .i64 y.num) (.string y.text) (.slice pl y.list.length cl) (.slice po y.obj.length co)) := by
  have hi : i < l.length := (List.getElem?_eq_some_iff.1 hy).1
  have h1 := h.under hb
  obtain ⟨e1, e2, e3, e4⟩ := h.lr (by omega)
  have hrl := h.rs.lt
  have hg1 := h.hg1
  have hg2 := h.hg2
  have hsz := hb.size
  refine ⟨?_, ?_, h1.lr.step hy hv ?_ ?_ ?_, ?_, h1.bel.trans (set6_below (by omega)), by rw [set6_size]; exact h1.hg1, by rw [set6_size]; exact h1.hg2⟩
  · exact (set6_block (by omega)).trans h1.bx
  · exact (set6_block (by omega)).trans h1.rs
  · exact fun q hq _ => ⟨by omega, by omega, by omega⟩
  · rintro ⟨_, q, _⟩; exact q rfl
  · rintro ⟨_, q⟩; omega
  · intro h0
    obtain ⟨_, _, f3, _⟩ := h.orw h0
    have hne := e3.ne_ f3 (by decide)
    refine h1.orw.keep (fun q b hq _ => set6_block ?_) h0
    rcases hq with rfl | hq
    · exact hne.symm
    · by_cases hqj : q < j
      · simp only [hqj, if_true] at hq
        exact hq.2.1
      · simp only [hqj, if_false] at hq
        have := hq.2
        omega
theorem CopyInv.stepO {y : Key × V} {pl po : Option Addr} {cl co : Nat} (h : CopyInv w S k b n t l o p1 p2 c1 c2 g1 g2 i j wr) (hb : Below wr.heap.size wr w1)
    (hy : o[j]? = some y) (hv : VIn w1 (fun b => wr.heap.size ≤ b) y.2 pl po) :
    CopyInv w S k b n t l o p1 p2 c1 c2 g1 g2 i (j + 1) (set6 w1 g2 (j * 7 + 1) (.int .i64 y.2.kind) (.bool y.2.bool) (.int .i64 y.2.num) (.string y.2.text) (.slice pl y.2.list.length cl) (.slice po y.2.obj.length co)) := by
  have hi : j < o.length := (List.getElem?_eq_some_iff.1 hy).1
  have h1 := h.under hb
  obtain ⟨e1, e2, e3, e4⟩ := h.orw (by omega)
  have hrl := h.rs.lt
  have hg1 := h.hg1
  have hg2 := h.hg2
  have hsz := hb.size
  refine ⟨?_, ?_, ?_, h1.orw.step hy hv ?_ ?_ ?_, h1.bel.trans (set6_below (by omega)), by rw [set6_size]; exact h1.hg1, by rw [set6_size]; exact h1.hg2⟩
  · exact (set6_block (by omega)).trans h1.bx
  · exact (set6_block (by omega)).trans h1.rs
  · intro h0
    obtain ⟨_, _, f3, _⟩ := h.lr h0
    have hne := f3.ne_ e3 (by decide)
    refine h1.lr.keep (fun q b hq _ => set6_block ?_) h0
    rcases hq with rfl | hq
    · exact hne
    · by_cases hqj : q < i
      · simp only [hqj, if_true] at hq
        exact hq.2.2
      · simp only [hqj, if_false] at hq
        have := hq.2
        omega
  · exact fun q hq _ => ⟨by omega, by omega, by omega⟩
  · rintro ⟨_, _, q⟩; exact q rfl
  · rintro ⟨_, q⟩; omega
/-- What the round at the place i reads. -/
theorem CopyInv.readL {y : V} (h : CopyInv w S k b n t l o p1 p2 c1 c2 g1 g2 i j wr) (hy : l[i]? = some y) : p1 = some ⟨g1, 0, none⟩ ∧ ∃ pl cl po co, Cells wr ⟨g1, i * 6, none⟩ (vcells y pl cl po co) ∧ VIn wr (cSo w S) y pl po := by
  have hi : i < l.length := (List.getElem?_eq_some_iff.1 hy).1
  obtain ⟨e1, e2, e3, e4⟩ := h.lr (by omega)
  obtain ⟨pl, cl, po, co, f1, f2⟩ := e4 i y hy
  simp only [Nat.lt_irrefl, if_false] at f2
  exact ⟨e1, pl, cl, po, co, f1, f2⟩
theorem CopyInv.readO {y : Key × V} (h : CopyInv w S k b n t l o p1 p2 c1 c2 g1 g2 i j wr) (hy : o[j]? = some y) : p2 = some ⟨g2, 0, none⟩ ∧ ∃ pl cl po co, Cells wr ⟨g2, j * 7, none⟩ (ecells y.1 y.2 pl cl po co) ∧ VIn wr (cSo w S) y.2 pl po := by
  have hi : j < o.length := (List.getElem?_eq_some_iff.1 hy).1
  obtain ⟨e1, e2, e3, e4⟩ := h.orw (by omega)
  obtain ⟨pl, cl, po, co, f1, f2⟩ := e4 j y hy
  simp only [Nat.lt_irrefl, if_false] at f2
  exact ⟨e1, pl, cl, po, co, f1, f2⟩
theorem CopyInv.done (h : CopyInv w S k b n t l o p1 p2 c1 c2 g1 g2 l.length o.length wr) : VIn wr (fun b => w.heap.size + 2 ≤ b) (.mk k b n t l o) p1 p2 := by
  refine VIn.of (h.lr.lin (fun b hb => by omega) fun i b hi hb => ?_) (h.orw.ein (fun b hb => by omega) fun i b hi hb => ?_)
  · simp only [hi, if_true] at hb; have := hb.1; omega
  · simp only [hi, if_true] at hb; have := hb.1; omega
end

theorem clone_list {l : List V} (hl : l.length * 88 ≤ 140737488355328) {w W : World} {S : Nat → Prop} {pl : Option Addr} (cl : Nat) (h : LIn w S l pl) (hW : Below w.heap.size w W) :
    Calls Try.prog 169 #[.slice pl l.length cl] W fun e w' => ∃ p c, e = .returned (.slice p l.length c) ∧
      (0 < w'.heap.size → ∃ g, g < w'.heap.size ∧ LRow w' W.heap.size (fun _ => cSo w S) l p g) ∧ Below W.heap.size W w' := by
  have h' : LIn W (cSo w S) l pl := h.keep fun b hb hl => ⟨⟨hb, hl⟩, hW.block b hl⟩
  have hcs : ∃ cells : List Value, cells.length = l.length * 6 ∧ (∀ a, pl = some a → Cells W a cells) ∧ (∀ u ∈ cells, u.oneCell' = true) ∧
      ∀ i y, l[i]? = some y → ∃ pl cl po co, (∀ j u, (vcells y pl cl po co)[j]? = some u → cells[i * 6 + j]? = some u) ∧ VIn W (cSo w S) y pl po := by
    cases pl with
    | some a =>
      obtain ⟨cells, h1, h2, h3, h4⟩ := h'.cells
      exact ⟨cells, h1, fun a' e => by cases e; exact h2, h3, h4⟩
    | none =>
      have : l = [] := by
        cases l with
        | nil => rfl
        | cons x l => obtain ⟨a, _, _, _, _, e, _⟩ := h 0 x rfl; cases e
      subst this
      exact ⟨[], rfl, fun a e => (by cases e), fun u hu => (by cases hu), fun i y hy => (by simp at hy)⟩
  obtain ⟨cells, h1, h2, h3, h4⟩ := hcs
  refine (clonev_any pl l.length cl cells W h1 (fun e => ?_) h2 h3 hl).mono ?_
  · subst e
    cases l with
    | nil => rfl
    | cons x l => obtain ⟨a, _, _, _, _, e, _⟩ := h 0 x rfl; cases e
  · rintro e w' ⟨v, rfl, ho, hb⟩
    obtain ⟨p, c, rfl, _⟩ := own_form ho
    refine ⟨p, c, rfl, fun h0 => ?_, hb⟩
    obtain ⟨g, hg, hr⟩ := LRow.of_clone h4 ho hb h0
    refine ⟨g, hg, fun hl0 => ?_⟩
    obtain ⟨r1, r2, r3, r4⟩ := hr hl0
    exact ⟨r1, r2, r3, fun i y hy => by
      obtain ⟨pl, cl, po, co, f1, f2⟩ := r4 i y hy
      exact ⟨pl, cl, po, co, f1, f2.more fun b hb _ => hb.1⟩⟩
theorem clone_obj {l : List (Key × V)} (hl : l.length * 104 ≤ 140737488355328) {w W : World} {S : Nat → Prop} {pl : Option Addr} (cl : Nat) (h : EIn w S l pl) (hW : Below w.heap.size w W) :
    Calls Try.prog 170 #[.slice pl l.length cl] W fun e w' => ∃ p c, e = .returned (.slice p l.length c) ∧
      (0 < w'.heap.size → ∃ g, g < w'.heap.size ∧ ORow w' W.heap.size (fun _ => cSo w S) l p g) ∧ Below W.heap.size W w' := by
  have h' : EIn W (cSo w S) l pl := h.keep fun b hb hl => ⟨⟨hb, hl⟩, hW.block b hl⟩
  have hcs : ∃ cells : List Value, cells.length = l.length * 7 ∧ (∀ a, pl = some a → Cells W a cells) ∧ (∀ u ∈ cells, u.oneCell' = true) ∧
      ∀ i y, l[i]? = some y → ∃ pl cl po co, (∀ j u, (ecells y.1 y.2 pl cl po co)[j]? = some u → cells[i * 7 + j]? = some u) ∧ VIn W (cSo w S) y.2 pl po := by
    cases pl with
    | some a =>
      obtain ⟨cells, h1, h2, h3, h4⟩ := h'.cells
      exact ⟨cells, h1, fun a' e => by cases e; exact h2, h3, h4⟩
    | none =>
      have : l = [] := by
        cases l with
        | nil => rfl
        | cons x l => obtain ⟨a, _, _, _, _, e, _⟩ := h 0 x rfl; cases e
      subst this
      exact ⟨[], rfl, fun a e => (by cases e), fun u hu => (by cases hu), fun i y hy => (by simp at hy)⟩
  obtain ⟨cells, h1, h2, h3, h4⟩ := hcs
  refine (clonem_any pl l.length cl cells W h1 (fun e => ?_) h2 h3 hl).mono ?_
  · subst e
    cases l with
    | nil => rfl
    | cons x l => obtain ⟨a, _, _, _, _, e, _⟩ := h 0 x rfl; cases e
  · rintro e w' ⟨v, rfl, ho, hb⟩
    obtain ⟨p, c, rfl, _⟩ := own_form ho
    refine ⟨p, c, rfl, fun h0 => ?_, hb⟩
    obtain ⟨g, hg, hr⟩ := ORow.of_clone h4 ho hb h0
    refine ⟨g, hg, fun hl0 => ?_⟩
    obtain ⟨r1, r2, r3, r4⟩ := hr hl0
    exact ⟨r1, r2, r3, fun i y hy => by
      obtain ⟨pl, cl, po, co, f1, f2⟩ := r4 i y hy
      exact ⟨pl, cl, po, co, f1, f2.more fun b hb _ => hb.1⟩⟩

theorem copy_start {w w0 w1 w2 : World} {S : Nat → Prop} {k : Int} {b : Bool} {n : Int} {t : ByteArray} {l : List V} {o : List (Key × V)} {pl po p1 p2 : Option Addr} {cl co c1 c2 : Nat}
    (hB : Below w.heap.size w w1) (hs : w.heap.size + 2 ≤ w0.heap.size) (hx1 : 0 < w1.heap.size → ∃ g, g < w1.heap.size ∧ LRow w1 w0.heap.size (fun _ => cSo w S) l p1 g) (hb1 : Below w0.heap.size w0 w1)
    (F1 : Blk w2 w.heap.size 42 #[.int .i64 k, .bool b, .int .i64 n, .string t, .slice pl l.length cl, .slice po o.length co]) (F2 : Blk w2 (w.heap.size + 1) 42 zeroV)
    (hx2 : 0 < w2.heap.size → ∃ g, g < w2.heap.size ∧ ORow w2 w1.heap.size (fun _ => cSo w S) o p2 g) (hb2 : Below w1.heap.size w1 w2) :
    ∃ p1' c1' p2' c2' g1 g2, CopyInv w S k b n t l o p1' p2' c1' c2' g1 g2 0 0 ((w2.setCell ⟨w.heap.size, 4, none⟩ (.slice p1 l.length c1)).setCell ⟨w.heap.size, 5, none⟩ (.slice p2 o.length c2)) := by
  have q1 := hb1.size
  have q2 := hb2.size
  obtain ⟨g1, hg1, r1⟩ := hx1 (by omega)
  obtain ⟨g2, hg2, r2⟩ := hx2 (by omega)
  have hblk : ∀ j, j ≠ w.heap.size → ((w2.setCell ⟨w.heap.size, 4, none⟩ (.slice p1 l.length c1)).setCell ⟨w.heap.size, 5, none⟩ (.slice p2 o.length c2)).heap[j]? = w2.heap[j]? := fun j hj => by
    rw [Below.heap_setCell _ _ _ _ hj, Below.heap_setCell _ _ _ _ hj]
  refine ⟨p1, c1, p2, c2, g1, g2, ?_, ?_, ?_, ?_, ?_, ?_, ?_⟩
  · have h := (F1.set_ 4 (.slice p1 l.length c1)).set_ 5 (.slice p2 o.length c2)
    simpa using h
  · exact (hblk _ (by omega)).trans F2
  · intro h0
    obtain ⟨e1, e2, e3, e4⟩ := r1 h0
    have r1' : LRow w1 (w.heap.size + 2) (fun _ => cSo w S) l p1 g1 := fun _ => ⟨e1, by omega, e3, e4⟩
    have r1'' := (r1'.under hb2).keep (w' := (w2.setCell ⟨w.heap.size, 4, none⟩ (.slice p1 l.length c1)).setCell ⟨w.heap.size, 5, none⟩ (.slice p2 o.length c2))
      (fun i b hb _ => hblk b (by rcases hb with rfl | ⟨_, hb⟩ <;> omega))
    simpa using r1'' h0
  · intro h0
    obtain ⟨e1, e2, e3, e4⟩ := r2 h0
    have r1' : ORow w2 (w.heap.size + 2) (fun _ => cSo w S) o p2 g2 := fun _ => ⟨e1, by omega, e3, e4⟩
    have r1'' := r1'.keep (w' := (w2.setCell ⟨w.heap.size, 4, none⟩ (.slice p1 l.length c1)).setCell ⟨w.heap.size, 5, none⟩ (.slice p2 o.length c2))
      (fun i b hb _ => hblk b (by rcases hb with rfl | ⟨_, hb⟩ <;> omega))
    simpa using r1'' h0
  · exact ((below_then hB (by omega) hb2).setCell (p := ⟨w.heap.size, 4, none⟩) (Nat.le_refl _) _).setCell (p := ⟨w.heap.size, 5, none⟩) (Nat.le_refl _) _
  · simp [World.setCell]; omega
  · simp [World.setCell]; omega

set_option maxHeartbeats 4000000 in
theorem copy_any {x : V} (hx : x.Fits) : ∀ (w : World) (S : Nat → Prop) (pl po : Option Addr) (cl co : Nat), VIn w S x pl po →
    Calls Try.prog 147 #[.agg #[.int .i64 x.kind, .bool x.bool, .int .i64 x.num, .string x.text, .slice pl x.list.length cl, .slice po x.obj.length co]] w (CopyPost x w) := by
  induction hx with
  | @mk k b n t l o ht hl ho hk hll hoo ih1 ih2 =>
  intro w S pl po cl co hv
  have hl1 := hv.list_
  have ho1 := hv.obj_
  simp only [V.kind, V.bool, V.num, V.text, V.list, V.obj] at hl1 ho1 ⊢
  have Ih1 := Lib.hid ih1
  have Ih2 := Lib.hid ih2
  have Hv := Lib.hid hv
  clear ih1 ih2 hv hk hll hoo
  have hc1 := fun (W : World) (hW : Below w.heap.size w W) => clone_list hl cl hl1 hW
  have hc2 := fun (W : World) (hW : Below w.heap.size w W) => clone_obj ho co ho1 hW
  have Hc1 := Lib.hid hc1
  have Hc2 := Lib.hid hc2
  have Hl1 := Lib.hid hl1
  have Ho1 := Lib.hid ho1
  clear hc1 hc2 hl1 ho1
  go_enter Try.func147, Try.ntmps147
  go_wp2_with fail
  have hB : Below w.heap.size w ((w.alloc (.cells #[.int .i64 k, .bool b, .int .i64 n, .string t, .slice pl l.length cl, .slice po o.length co] 42)).alloc (.cells zeroV 42)) :=
    ((Below.refl _ w).alloc (Nat.le_refl _) _).alloc (by simp) _
  have b1 := (Blk.new w 42 #[.int .i64 k, .bool b, .int .i64 n, .string t, .slice pl l.length cl, .slice po o.length co]).alloc (.cells zeroV 42)
  have b2 := Blk.new (w.alloc (.cells #[.int .i64 k, .bool b, .int .i64 n, .string t, .slice pl l.length cl, .slice po o.length co] 42)) 42 zeroV
  rw [World.size_alloc] at b2
  have hs0 : ((w.alloc (.cells #[.int .i64 k, .bool b, .int .i64 n, .string t, .slice pl l.length cl, .slice po o.length co] 42)).alloc (.cells zeroV 42)).heap.size = w.heap.size + 2 := by simp
  generalize (w.alloc (.cells #[.int .i64 k, .bool b, .int .i64 n, .string t, .slice pl l.length cl, .slice po o.length co] 42)).alloc (.cells zeroV 42) = W0 at hB b1 b2 hs0 ⊢
  go_cut [] (fun W1 => ∃ p1 c1 p2 c2 g1 g2, CopyInv w S k b n t l o p1 p2 c1 c2 g1 g2 0 0 W1)
  case first =>
    have cl4 := b1.cell 4
    have cl5 := b1.cell 5
    simp at cl4 cl5
    have B1 := Lib.hid b1
    have B2 := Lib.hid b2
    have Hs0 := Lib.hid hs0
    clear b1 b2 hs0
    go_region_with (first
      | (go_at_call 169; refine (Hc1.out W0.drew hB.drew).mono ?_; rintro e w1 ⟨p1, c1, rfl, hx1, hb1⟩; have D1 := Lib.hid (B1.out.drew.under hb1); have D2 := Lib.hid (B2.out.drew.under hb1); have hB1 := below_then hB.drew hB.size hb1; have k4 := D1.out.cell 4; have k5 := D1.out.cell 5; have f4 := D1.out.frozen 4; have f5 := D1.out.frozen 5; simp at k4 k5; have Hb1 := Lib.hid hb1; have Hx1 := Lib.hid hx1; clear hb1 hx1)
      | (go_at_call 170; refine (Hc2.out w1 hB1).mono ?_; rintro e w2 ⟨p2, c2, rfl, hx2, hb2⟩; have F1 := Lib.hid (D1.out.under hb2); have F2 := Lib.hid (D2.out.under hb2); have k4' := F1.out.cell 4; have k5' := F1.out.cell 5; have f4' := F1.out.frozen 4; have f5' := F1.out.frozen 5; simp at k4' k5'; have Hx2 := Lib.hid hx2; have Hb2 := Lib.hid hb2; clear hx2 hb2))
    all_goals (go_wp2_with fail; go_meet; exact copy_start hB1 (w0 := W0.drew) (Nat.le_of_eq Hs0.out.symm) Hx1.out Hb1.out F1.out F2.out Hx2.out Hb2.out)
  case rest =>
    clear b1 b2 hs0 hB
    obtain ⟨p1, c1, p2, c2, g1, g2, hinv⟩ := hcut
    have kb := hinv.bx.cell 4
    simp at kb
    have Hinv := Lib.hid hinv
    clear hinv
    go_wp2_with fail
    go_loopw [3, 16] (fun vi vk wr => ∃ i : Nat, i ≤ l.length ∧ vk = .int .i64 i ∧ Hid (CopyInv w S k b n t l o p1 p2 c1 c2 g1 g2 i 0 wr)) (fun vi vk _ => l.length - (intOf vk).toNat)
    case atStart => exact ⟨0, by omega, rfl, Hinv⟩
    case round =>
      obtain ⟨i, hi, rfl, Hr⟩ := hrel
      by_cases hlt : i < l.length
      · obtain ⟨y, hy⟩ : ∃ y, l[i]? = some y := ⟨_, List.getElem?_eq_getElem hlt⟩
        obtain ⟨hp1, ql, dl, qo, do_, hcells, hvy⟩ := Hr.out.readL hy
        subst hp1
        have k4 := Hr.out.bx.cell 4
        simp at k4
        obtain ⟨e0, e1, e2, e3, e4, e5⟩ := hcells.six
        have Hcall := Lib.hid (Ih1.out y (List.mem_of_getElem? hy))
        have Hvy := Lib.hid hvy
        have Hy := Lib.hid hy
        clear hcells hvy hy
        go_wp2_with fail
        go_region_with (first
          | (go_at_call 147; refine (Hcall.out _ _ _ _ _ _ Hvy.out.drew).mono ?_; rintro e w1 ⟨pl', cl', po', co', rfl, hv1, hb1⟩; have hb1 := below_of_drew hb1; have Hv1 := Lib.hid hv1; have HI := Lib.hid (Hr.out.under hb1); have k4' := HI.out.bx.cell 4; simp at k4'; obtain ⟨_, _, hrow, _⟩ := HI.out.lr (Nat.lt_of_le_of_lt (Nat.zero_le _) hlt); have hfz := hrow.frozen; obtain ⟨s0, z0⟩ := hrow.some (j := i * 6) (by omega); obtain ⟨s1, z1⟩ := hrow.some (j := i * 6 + 1) (by omega); obtain ⟨s2, z2⟩ := hrow.some (j := i * 6 + 2) (by omega); obtain ⟨s3, z3⟩ := hrow.some (j := i * 6 + 3) (by omega); obtain ⟨s4, z4⟩ := hrow.some (j := i * 6 + 4) (by omega); obtain ⟨s5, z5⟩ := hrow.some (j := i * 6 + 5) (by omega); clear hrow))
        all_goals
          go_wp2_with fail
          go_roundw
          case rel => exact ⟨i + 1, by omega, by go_num, Lib.hid (Hr.out.stepL hb1 Hy.out Hv1.out)⟩
          case measure => simp [intOf]; omega
      · obtain rfl : i = l.length := by omega
        have k5 := Hr.out.bx.cell 5
        simp at k5
        go_wp2_with fail
        go_loopw [4, 33] (fun vi vk wr => ∃ j : Nat, j ≤ o.length ∧ vk = .int .i64 j ∧ Hid (CopyInv w S k b n t l o p1 p2 c1 c2 g1 g2 l.length j wr)) (fun vi vk _ => o.length - (intOf vk).toNat)
        case atStart => exact ⟨0, by omega, rfl, Hr⟩
        case round =>
          obtain ⟨j, hj, rfl, Hq⟩ := hrel
          by_cases hlt2 : j < o.length
          · obtain ⟨y, hy⟩ : ∃ y, o[j]? = some y := ⟨_, List.getElem?_eq_getElem hlt2⟩
            obtain ⟨hp2, ql, dl, qo, do_, hcells, hvy⟩ := Hq.out.readO hy
            subst hp2
            have k5' := Hq.out.bx.cell 5
            simp at k5'
            have hcells2 := Cells.append_right (xs := [.string y.1]) hcells
            rw [add_lit] at hcells2
            obtain ⟨e0, e1, e2, e3, e4, e5⟩ := hcells2.six
            simp only [List.length_cons, List.length_nil, Nat.zero_add] at e0 e1 e2 e3 e4 e5
            have Hcall := Lib.hid (Ih2.out y (List.mem_of_getElem? hy))
            have Hvy := Lib.hid hvy
            have Hy := Lib.hid hy
            clear hcells hcells2 hvy hy
            go_wp2_with fail
            go_region_with (first
              | (go_at_call 147; refine (Hcall.out _ _ _ _ _ _ Hvy.out.drew).mono ?_; rintro e w1 ⟨pl', cl', po', co', rfl, hv1, hb1⟩; have hb1 := below_of_drew hb1; have Hv1 := Lib.hid hv1; have HI := Lib.hid (Hq.out.under hb1); have k5'' := HI.out.bx.cell 5; simp at k5''; obtain ⟨_, _, hrow, _⟩ := HI.out.orw (Nat.lt_of_le_of_lt (Nat.zero_le _) hlt2); have hfz := hrow.frozen; obtain ⟨s0, z0⟩ := hrow.some (j := j * 7 + 1) (by omega); obtain ⟨s1, z1⟩ := hrow.some (j := j * 7 + 1 + 1) (by omega); obtain ⟨s2, z2⟩ := hrow.some (j := j * 7 + 1 + 2) (by omega); obtain ⟨s3, z3⟩ := hrow.some (j := j * 7 + 1 + 3) (by omega); obtain ⟨s4, z4⟩ := hrow.some (j := j * 7 + 1 + 4) (by omega); obtain ⟨s5, z5⟩ := hrow.some (j := j * 7 + 1 + 5) (by omega); clear hrow))
            all_goals
              go_wp2_with fail
              go_roundw
              case rel => exact ⟨j + 1, by omega, by go_num, Lib.hid (Hq.out.stepO hb1 Hy.out Hv1.out)⟩
              case measure => simp [intOf]; omega
          · obtain rfl : j = o.length := by omega
            have kb0 := Hq.out.bx.cell 0
            have kb1 := Hq.out.bx.cell 1
            have kb2 := Hq.out.bx.cell 2
            have kb3 := Hq.out.bx.cell 3
            have kb4 := Hq.out.bx.cell 4
            have kb5 := Hq.out.bx.cell 5
            have kr0 := Hq.out.rs.cell 0
            have kr1 := Hq.out.rs.cell 1
            have kr2 := Hq.out.rs.cell 2
            have kr3 := Hq.out.rs.cell 3
            have kr4 := Hq.out.rs.cell 4
            have kr5 := Hq.out.rs.cell 5
            have fr := Hq.out.rs.frozen
            simp at kb0 kb1 kb2 kb3 kb4 kb5 kr0 kr1 kr2 kr3 kr4 kr5
            go_wp2_with fail
            have hfin := set6_here (w := wr) (g := w.heap.size + 1) (o := 0) (m := 6) (E := 42) (c0 := .int .i64 k) (c1 := .bool b) (c2 := .int .i64 n) (c3 := .string t) (c4 := .slice p1 l.length c1) (c5 := .slice p2 o.length c2) ⟨_, Hq.out.rs, by simp⟩ (by omega)
            refine bodyPost_ret (results_cell1 (cs := [.int .i64 k, .bool b, .int .i64 n, .string t, .slice p1 l.length c1, .slice p2 o.length c2]) rfl rfl (Try.isAgg42 _) (Try.sizeOf42 _) hfin) rfl ?_
            refine ⟨p1, c1, p2, c2, rfl, ?_, ?_⟩
            · exact (Hq.out.done.agree (set6_agree (by omega))).more (fun b hb _ => by omega)
            · exact Hq.out.bel.trans (set6_below (by omega))
end Go.Proofs.Ytajcmpafbcpicaa
