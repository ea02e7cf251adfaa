/- The document's Height and Nodes of a shape. Conditions: the shape lies in memory; the height and the count are small. -/
import Derived.Test.YtajcmpafbcpicaaCopy
import Derived.Test.YtajcmpafbcpicaaNodeMem
import Derived.Test.YtajcmpafbcpicaaShapeLaws
set_option linter.unusedVariables false
set_option linter.unusedSimpArgs false
namespace Go.Proofs.Ytajcmpafbcpicaa
open Go.RowKit

theorem Sh.ind {p : Sh → Prop} (h : ∀ es ks, (∀ k ∈ ks, p k) → p (.mk es ks)) : ∀ s, p s
  | .mk es ks => h es ks fun k hk => Sh.ind h k
termination_by s => SizeOf.sizeOf s
decreasing_by
  have := List.sizeOf_lt_of_mem hk
  simp
  omega

def IntPost (n : Nat) (w : World) (e : Ending) (w' : World) : Prop := e = .returned (.int .i64 (n : Nat)) ∧ Below w.heap.size w w'

theorem KIn.cells {w : World} {S : Nat → Prop} {l : List Sh} {p : Option Addr} (h : KIn w S l p) {i : Nat} {k : Sh} (hk : l[i]? = some k) :
    ∃ a qe ce qk ck, p = some a ∧ w.cell? (a.add (i * 2)) = some (.slice qe k.es.length ce) ∧ w.cell? ⟨(a.add (i * 2)).block, (a.add (i * 2)).off + 1, none⟩ = some (.slice qk k.kids.length ck) ∧ SIn w S k qe qk := by
  obtain ⟨a, qe, ce, qk, ck, h1, h2, h3, h4⟩ := h i k hk
  obtain ⟨c0, c1⟩ := h3.at2
  exact ⟨_, qe, ce, qk, ck, h1, c0, c1, h4⟩

set_option maxHeartbeats 1000000 in
theorem rheight_any (s : Sh) : s.height ≤ 1099511627776 → ∀ (w : World) (S : Nat → Prop) (pe : Option Addr) (ce : Nat) (pk : Option Addr) (ck : Nat), SIn w S s pe pk →
    Calls Try.prog 45 #[.agg #[.slice pe s.es.length ce, .slice pk s.kids.length ck]] w (IntPost s.height w) := by
  induction s using Sh.ind with
  | h es ks ih =>
  intro hh w S pe ce pk ck hs
  have hk := hs.kids_
  simp only [Sh.es, Sh.kids] at hk ⊢
  have Hk := Lib.hid hk
  clear hk hs
  cases ks with
  | nil =>
    simp only [List.length_nil]
    go_enter Try.func45, Try.ntmps45
    go_wp2_with fail
    go_ret
    exact ⟨by simp [Sh.height], (Below.refl _ w).alloc (Nat.le_refl _) _⟩
  | cons k l =>
    have ih0 := ih k (by simp)
    have hh' : 1 + k.height ≤ 1099511627776 := hh
    have hkl : ((k :: l).length == 0) = false := by simp
    obtain ⟨a, qe, de, qk, dk, rfl, c0, c1, hsk⟩ := Hk.out.cells (i := 0) rfl
    simp only [Nat.zero_mul, add_zero] at c0 c1
    have Ih := Lib.hid (fun W (hW : Below w.heap.size w W) => ih0 (by omega) W S qe de qk dk (hsk.under hW))
    have ha : a.block < w.heap.size := World.block_lt_of_cell? w _ c0
    clear ih ih0 hsk
    have hl0 : 0 < (k :: l).length := by simp
    have hz : ((((k :: l).length : Nat) : Int) == 0) = false := by simp; omega
    generalize (k :: l).length = n at hl0 hz
    have hB : Below w.heap.size w (w.alloc (.cells #[.slice pe es.length ce, .slice (some a) n ck] 28)) := (Below.refl _ w).alloc (Nat.le_refl _) _
    have HB := Lib.hid hB
    clear hB
    have c0' := HB.out.cell (p := a) ha
    have c1' := HB.out.cell (p := ⟨a.block, a.off + 1, none⟩) ha
    rw [c0] at c0'
    rw [c1] at c1'
    have hwr : IntKind.i64.wrap (1 + (k.height : Int)) = 1 + (k.height : Int) := IntWalk.i64_in _ (by omega)
    clear c0 c1
    go_enter Try.func45, Try.ntmps45
    go_wp2_with (go_at_call 45; refine (Ih.out _ HB.out).mono ?_; rintro e w1 ⟨rfl, hb1⟩; have Hb1 := Lib.hid hb1; clear hb1)
    go_ret
    exact ⟨by simp [Sh.height], below_then HB.out HB.out.size Hb1.out⟩

theorem nodess_append (a b : List Sh) : nodess (a ++ b) = nodess a + nodess b := by
  induction a with
  | nil => simp [nodess]
  | cons x l ih => simp [nodess, ih]; omega
theorem nodess_step {ks : List Sh} {i : Nat} {k : Sh} (h : ks[i]? = some k) : nodess (ks.take (i + 1)) = nodess (ks.take i) + k.nodes := by
  rw [List.take_add_one, h, nodess_append]; simp [nodess]
theorem nodess_take_le (ks : List Sh) (i : Nat) : nodess (ks.take i) ≤ nodess ks := by
  have := nodess_append (ks.take i) (ks.drop i)
  rw [List.take_append_drop] at this
  omega
theorem nodess_len (ks : List Sh) : ks.length ≤ nodess ks := by
  induction ks with
  | nil => simp
  | cons x l ih =>
    obtain ⟨es, k⟩ := x
    simp [nodess, Sh.nodes]; omega
theorem nodes_kids (s : Sh) : s.kids.length + 1 ≤ s.nodes := by
  obtain ⟨es, ks⟩ := s
  have := nodess_len ks
  simp [Sh.nodes, Sh.kids]; omega

/-- The shape handed in, in its own block, and what was there. -/
structure Boxed (w : World) (pe : Option Addr) (n : Nat) (ce : Nat) (pk : Option Addr) (m : Nat) (ck : Nat) (wr : World) : Prop where
  blk : Blk wr w.heap.size 28 #[.slice pe n ce, .slice pk m ck]
  bel : Below w.heap.size w wr
theorem Boxed.under {w : World} {pe : Option Addr} {n ce : Nat} {pk : Option Addr} {m ck : Nat} {wr w1 : World} (h : Boxed w pe n ce pk m ck wr) (hb : Below wr.heap.size wr w1) : Boxed w pe n ce pk m ck w1 := ⟨h.blk.under hb, below_then h.bel h.bel.size hb⟩
theorem Boxed.drewN {w : World} {pe : Option Addr} {n ce : Nat} {pk : Option Addr} {m ck : Nat} {wr : World} (h : Boxed w pe n ce pk m ck wr) (q : Nat) : Boxed w pe n ce pk m ck (wr.drewN q) := h.under ⟨rfl, rfl, rfl, Nat.le_refl _, fun _ _ => rfl⟩
theorem Boxed.new (w : World) (pe : Option Addr) (n ce : Nat) (pk : Option Addr) (m ck : Nat) : Boxed w pe n ce pk m ck (w.alloc (.cells #[.slice pe n ce, .slice pk m ck] 28)) :=
  ⟨Blk.new w _ _, (Below.refl _ w).alloc (Nat.le_refl _) _⟩
theorem Boxed.cells {w : World} {pe : Option Addr} {n ce : Nat} {pk : Option Addr} {m ck : Nat} {wr : World} (h : Boxed w pe n ce pk m ck wr) : wr.cell? ⟨w.heap.size, 0, none⟩ = some (.slice pe n ce) ∧ wr.cell? ⟨w.heap.size, 1, none⟩ = some (.slice pk m ck) := by
  have c0 := h.blk.cell 0
  have c1 := h.blk.cell 1
  simp at c0 c1
  exact ⟨c0, c1⟩

set_option maxHeartbeats 1000000 in
theorem rnodes_any (s : Sh) : s.nodes ≤ 1099511627776 → ∀ (w : World) (S : Nat → Prop) (pe : Option Addr) (ce : Nat) (pk : Option Addr) (ck : Nat), SIn w S s pe pk →
    Calls Try.prog 51 #[.agg #[.slice pe s.es.length ce, .slice pk s.kids.length ck]] w (IntPost s.nodes w) := by
  induction s using Sh.ind with
  | h es ks ih =>
  intro hh w S pe ce pk ck hs
  have hk := hs.kids_
  have hkl := nodess_len ks
  simp only [Sh.es, Sh.kids] at hk ⊢
  have Hk := Lib.hid hk
  have Ih := Lib.hid ih
  have hh' : 1 + nodess ks ≤ 1099511627776 := by simpa [Sh.nodes] using hh
  clear hk hs ih hh
  go_enter Try.func51, Try.ntmps51
  go_wp2_with fail
  have Hbx := Lib.hid (Boxed.new w pe es.length ce pk ks.length ck)
  go_loopw [3, 4] (fun vn vi wr => ∃ i : Nat, i ≤ ks.length ∧ vi = .int .i64 i ∧ vn = .int .i64 (1 + (nodess (ks.take i) : Nat)) ∧ Hid (Boxed w pe es.length ce pk ks.length ck wr)) (fun vn vi _ => ks.length - (intOf vi).toNat)
  case atStart => exact ⟨0, by omega, rfl, by simp [nodess], Hbx⟩
  case round =>
    obtain ⟨i, hi, rfl, rfl, Hr⟩ := hrel
    obtain ⟨b0, b1⟩ := Hr.out.cells
    by_cases hlt : i < ks.length
    · obtain ⟨k, hk⟩ : ∃ k, ks[i]? = some k := ⟨_, List.getElem?_eq_getElem hlt⟩
      have hst := nodess_step hk
      have hle := nodess_take_le ks (i + 1)
      obtain ⟨a, qe, de, qk, dk, rfl, c0, c1, hsk⟩ := Hk.out.cells hk
      have hax := World.block_lt_of_cell? w _ c0
      have c0' := Hr.out.bel.cell (p := a.add (i * 2)) hax
      have c1' := Hr.out.bel.cell (p := ⟨(a.add (i * 2)).block, (a.add (i * 2)).off + 1, none⟩) hax
      rw [c0] at c0'
      rw [c1] at c1'
      have hkn : k.nodes ≤ 1099511627776 := by omega
      have hc := Ih.out k (List.mem_of_getElem? hk) hkn wr S qe de qk dk (hsk.under Hr.out.bel)
      have Hc := Lib.hid hc
      have Hst := Lib.hid hst
      have hw1 : IntKind.i64.wrap ((1 + (nodess (ks.take i) : Int)) + (k.nodes : Int)) = (1 + (nodess (ks.take i) : Int)) + (k.nodes : Int) := IntWalk.i64_in _ (by omega)
      clear c0 c1 hsk hc hst hk
      go_wp2_with (go_at_call 51; refine Hc.out.mono ?_; rintro e w1 ⟨rfl, hb1⟩; have Hb1 := Lib.hid hb1; clear hb1)
      go_roundw
      case measure => simp [intOf]; omega
      case rel =>
        refine ⟨i + 1, by omega, by go_num, ?_, Hr.out.under Hb1.out⟩
        rw [Hst.out]
        congr 1
        omega
    · obtain rfl : i = ks.length := by omega
      go_wp2_with fail
      go_ret
      exact ⟨by simp [Sh.nodes, List.take_length], Hr.out.bel⟩

end Go.Proofs.Ytajcmpafbcpicaa
