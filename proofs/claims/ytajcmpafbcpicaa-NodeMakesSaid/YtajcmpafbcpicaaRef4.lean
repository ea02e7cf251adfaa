/- The document's May: may a shape be a node's? Conditions: the shape lies in memory, in old blocks; its lists are not too long. -/
import Derived.Test.YtajcmpafbcpicaaRef3
import Derived.Test.YtajcmpafbcpicaaRising
import Derived.Deep.DeepCutAuto
import Derived.Deep.RegionHeld3
set_option linter.unusedVariables false
set_option linter.unusedSimpArgs false
namespace Go.Proofs.Ytajcmpafbcpicaa
open Go.RowKit

/-- Every shape in it is small enough: lists thin, entries few, heights low. -/
inductive Sh.Trim : Sh → Prop
  | mk {es : List En} {kids : List Sh} (ht : (Sh.mk es kids).Thin) (hf : (Sh.mk es kids).flat.length * 104 ≤ 140737488355328) (hh : (Sh.mk es kids).height ≤ 1099511627776) (hks : ∀ k, k ∈ kids → Sh.Trim k) : Sh.Trim (.mk es kids)
theorem Sh.Trim.thin {s : Sh} (h : s.Trim) : s.Thin := by cases h; assumption
theorem Sh.Trim.flat_ {s : Sh} (h : s.Trim) : s.flat.length * 104 ≤ 140737488355328 := by cases h; assumption
theorem Sh.Trim.height_ {s : Sh} (h : s.Trim) : s.height ≤ 1099511627776 := by cases h; assumption
theorem Sh.Trim.kid {s k : Sh} (h : s.Trim) (hk : k ∈ s.kids) : k.Trim := by cases h with | mk _ _ _ hks => exact hks k hk

/-- What stands in the loop over the kids. -/
def kidOk (h : Nat) (k : Sh) : Prop := k.may = true ∧ k.flat ≠ [] ∧ k.height = h

theorem may_leaf_eq (es : List En) (h : es.length ≤ 8) : (Sh.mk es []).may = rising (Sh.mk es []).flat := by simp [Sh.may, Sh.flat, h]
theorem may_inner_eq (k0 : Sh) (l : List Sh) (h2 : 2 ≤ (k0 :: l).length) (h8 : (k0 :: l).length ≤ 8) (hall : ∀ k ∈ k0 :: l, kidOk k0.height k) : (Sh.mk [] (k0 :: l)).may = rising (Sh.mk [] (k0 :: l)).flat := by
  have hm : mays k0.height l = true := (mays_iff _ _).2 fun k hk => hall k (List.mem_cons_of_mem _ hk)
  obtain ⟨h1, hf, _⟩ := hall k0 (by simp)
  simp only [List.length_cons] at h2 h8
  have hfe : k0.flat.isEmpty = false := by simpa using hf
  simp [Sh.may, Sh.flat, flats, hm, h1, hfe, h2, h8]
theorem may_bad_kid {es : List En} {k0 : Sh} {l : List Sh} {k : Sh} (hk : k ∈ k0 :: l) (h : ¬ kidOk k0.height k) : (Sh.mk es (k0 :: l)).may = false := by
  cases hm : (Sh.mk es (k0 :: l)).may with
  | false => rfl
  | true =>
    obtain ⟨_, _, _, h4, _⟩ := (Sh.may_inner es (k0 :: l) (by simp)).1 hm
    obtain ⟨a, b, c⟩ := h4 k hk
    have : k.height = k0.height := by simp [Sh.height] at c; omega
    exact absurd ⟨a, b, this⟩ h

theorem opAt0 {α : Type} {x0 : α} {l : List α} : (List.toArray (x0 :: l))[0]? = some x0 := rfl
theorem opAt1 {α : Type} {x0 x1 : α} {l : List α} : (List.toArray (x0 :: x1 :: l))[1]? = some x1 := rfl
theorem opAt2 {α : Type} {x0 x1 x2 : α} {l : List α} : (List.toArray (x0 :: x1 :: x2 :: l))[2]? = some x2 := rfl
theorem opAt3 {α : Type} {x0 x1 x2 x3 : α} {l : List α} : (List.toArray (x0 :: x1 :: x2 :: x3 :: l))[3]? = some x3 := rfl
theorem opAt4 {α : Type} {x0 x1 x2 x3 x4 : α} {l : List α} : (List.toArray (x0 :: x1 :: x2 :: x3 :: x4 :: l))[4]? = some x4 := rfl
theorem opAt5 {α : Type} {x0 x1 x2 x3 x4 x5 : α} {l : List α} : (List.toArray (x0 :: x1 :: x2 :: x3 :: x4 :: x5 :: l))[5]? = some x5 := rfl
theorem opAt6 {α : Type} {x0 x1 x2 x3 x4 x5 x6 : α} {l : List α} : (List.toArray (x0 :: x1 :: x2 :: x3 :: x4 :: x5 :: x6 :: l))[6]? = some x6 := rfl
theorem opAt7 {α : Type} {x0 x1 x2 x3 x4 x5 x6 x7 : α} {l : List α} : (List.toArray (x0 :: x1 :: x2 :: x3 :: x4 :: x5 :: x6 :: x7 :: l))[7]? = some x7 := rfl
theorem opAt8 {α : Type} {x0 x1 x2 x3 x4 x5 x6 x7 x8 : α} {l : List α} : (List.toArray (x0 :: x1 :: x2 :: x3 :: x4 :: x5 :: x6 :: x7 :: x8 :: l))[8]? = some x8 := rfl
theorem opAt9 {α : Type} {x0 x1 x2 x3 x4 x5 x6 x7 x8 x9 : α} {l : List α} : (List.toArray (x0 :: x1 :: x2 :: x3 :: x4 :: x5 :: x6 :: x7 :: x8 :: x9 :: l))[9]? = some x9 := rfl
theorem opAt10 {α : Type} {x0 x1 x2 x3 x4 x5 x6 x7 x8 x9 x10 : α} {l : List α} : (List.toArray (x0 :: x1 :: x2 :: x3 :: x4 :: x5 :: x6 :: x7 :: x8 :: x9 :: x10 :: l))[10]? = some x10 := rfl
theorem opAt11 {α : Type} {x0 x1 x2 x3 x4 x5 x6 x7 x8 x9 x10 x11 : α} {l : List α} : (List.toArray (x0 :: x1 :: x2 :: x3 :: x4 :: x5 :: x6 :: x7 :: x8 :: x9 :: x10 :: x11 :: l))[11]? = some x11 := rfl
theorem opAt12 {α : Type} {x0 x1 x2 x3 x4 x5 x6 x7 x8 x9 x10 x11 x12 : α} {l : List α} : (List.toArray (x0 :: x1 :: x2 :: x3 :: x4 :: x5 :: x6 :: x7 :: x8 :: x9 :: x10 :: x11 :: x12 :: l))[12]? = some x12 := rfl
theorem opAt13 {α : Type} {x0 x1 x2 x3 x4 x5 x6 x7 x8 x9 x10 x11 x12 x13 : α} {l : List α} : (List.toArray (x0 :: x1 :: x2 :: x3 :: x4 :: x5 :: x6 :: x7 :: x8 :: x9 :: x10 :: x11 :: x12 :: x13 :: l))[13]? = some x13 := rfl
theorem opAt14 {α : Type} {x0 x1 x2 x3 x4 x5 x6 x7 x8 x9 x10 x11 x12 x13 x14 : α} {l : List α} : (List.toArray (x0 :: x1 :: x2 :: x3 :: x4 :: x5 :: x6 :: x7 :: x8 :: x9 :: x10 :: x11 :: x12 :: x13 :: x14 :: l))[14]? = some x14 := rfl
theorem opAt15 {α : Type} {x0 x1 x2 x3 x4 x5 x6 x7 x8 x9 x10 x11 x12 x13 x14 x15 : α} {l : List α} : (List.toArray (x0 :: x1 :: x2 :: x3 :: x4 :: x5 :: x6 :: x7 :: x8 :: x9 :: x10 :: x11 :: x12 :: x13 :: x14 :: x15 :: l))[15]? = some x15 := rfl
theorem opAt16 {α : Type} {x0 x1 x2 x3 x4 x5 x6 x7 x8 x9 x10 x11 x12 x13 x14 x15 x16 : α} {l : List α} : (List.toArray (x0 :: x1 :: x2 :: x3 :: x4 :: x5 :: x6 :: x7 :: x8 :: x9 :: x10 :: x11 :: x12 :: x13 :: x14 :: x15 :: x16 :: l))[16]? = some x16 := rfl
theorem opAt17 {α : Type} {x0 x1 x2 x3 x4 x5 x6 x7 x8 x9 x10 x11 x12 x13 x14 x15 x16 x17 : α} {l : List α} : (List.toArray (x0 :: x1 :: x2 :: x3 :: x4 :: x5 :: x6 :: x7 :: x8 :: x9 :: x10 :: x11 :: x12 :: x13 :: x14 :: x15 :: x16 :: x17 :: l))[17]? = some x17 := rfl
theorem opAt18 {α : Type} {x0 x1 x2 x3 x4 x5 x6 x7 x8 x9 x10 x11 x12 x13 x14 x15 x16 x17 x18 : α} {l : List α} : (List.toArray (x0 :: x1 :: x2 :: x3 :: x4 :: x5 :: x6 :: x7 :: x8 :: x9 :: x10 :: x11 :: x12 :: x13 :: x14 :: x15 :: x16 :: x17 :: x18 :: l))[18]? = some x18 := rfl
theorem opAt19 {α : Type} {x0 x1 x2 x3 x4 x5 x6 x7 x8 x9 x10 x11 x12 x13 x14 x15 x16 x17 x18 x19 : α} {l : List α} : (List.toArray (x0 :: x1 :: x2 :: x3 :: x4 :: x5 :: x6 :: x7 :: x8 :: x9 :: x10 :: x11 :: x12 :: x13 :: x14 :: x15 :: x16 :: x17 :: x18 :: x19 :: l))[19]? = some x19 := rfl
theorem opAt20 {α : Type} {x0 x1 x2 x3 x4 x5 x6 x7 x8 x9 x10 x11 x12 x13 x14 x15 x16 x17 x18 x19 x20 : α} {l : List α} : (List.toArray (x0 :: x1 :: x2 :: x3 :: x4 :: x5 :: x6 :: x7 :: x8 :: x9 :: x10 :: x11 :: x12 :: x13 :: x14 :: x15 :: x16 :: x17 :: x18 :: x19 :: x20 :: l))[20]? = some x20 := rfl
theorem opAt21 {α : Type} {x0 x1 x2 x3 x4 x5 x6 x7 x8 x9 x10 x11 x12 x13 x14 x15 x16 x17 x18 x19 x20 x21 : α} {l : List α} : (List.toArray (x0 :: x1 :: x2 :: x3 :: x4 :: x5 :: x6 :: x7 :: x8 :: x9 :: x10 :: x11 :: x12 :: x13 :: x14 :: x15 :: x16 :: x17 :: x18 :: x19 :: x20 :: x21 :: l))[21]? = some x21 := rfl
theorem opAt22 {α : Type} {x0 x1 x2 x3 x4 x5 x6 x7 x8 x9 x10 x11 x12 x13 x14 x15 x16 x17 x18 x19 x20 x21 x22 : α} {l : List α} : (List.toArray (x0 :: x1 :: x2 :: x3 :: x4 :: x5 :: x6 :: x7 :: x8 :: x9 :: x10 :: x11 :: x12 :: x13 :: x14 :: x15 :: x16 :: x17 :: x18 :: x19 :: x20 :: x21 :: x22 :: l))[22]? = some x22 := rfl
theorem opAt23 {α : Type} {x0 x1 x2 x3 x4 x5 x6 x7 x8 x9 x10 x11 x12 x13 x14 x15 x16 x17 x18 x19 x20 x21 x22 x23 : α} {l : List α} : (List.toArray (x0 :: x1 :: x2 :: x3 :: x4 :: x5 :: x6 :: x7 :: x8 :: x9 :: x10 :: x11 :: x12 :: x13 :: x14 :: x15 :: x16 :: x17 :: x18 :: x19 :: x20 :: x21 :: x22 :: x23 :: l))[23]? = some x23 := rfl
theorem opAt24 {α : Type} {x0 x1 x2 x3 x4 x5 x6 x7 x8 x9 x10 x11 x12 x13 x14 x15 x16 x17 x18 x19 x20 x21 x22 x23 x24 : α} {l : List α} : (List.toArray (x0 :: x1 :: x2 :: x3 :: x4 :: x5 :: x6 :: x7 :: x8 :: x9 :: x10 :: x11 :: x12 :: x13 :: x14 :: x15 :: x16 :: x17 :: x18 :: x19 :: x20 :: x21 :: x22 :: x23 :: x24 :: l))[24]? = some x24 := rfl
theorem opAt25 {α : Type} {x0 x1 x2 x3 x4 x5 x6 x7 x8 x9 x10 x11 x12 x13 x14 x15 x16 x17 x18 x19 x20 x21 x22 x23 x24 x25 : α} {l : List α} : (List.toArray (x0 :: x1 :: x2 :: x3 :: x4 :: x5 :: x6 :: x7 :: x8 :: x9 :: x10 :: x11 :: x12 :: x13 :: x14 :: x15 :: x16 :: x17 :: x18 :: x19 :: x20 :: x21 :: x22 :: x23 :: x24 :: x25 :: l))[25]? = some x25 := rfl
theorem opAt26 {α : Type} {x0 x1 x2 x3 x4 x5 x6 x7 x8 x9 x10 x11 x12 x13 x14 x15 x16 x17 x18 x19 x20 x21 x22 x23 x24 x25 x26 : α} {l : List α} : (List.toArray (x0 :: x1 :: x2 :: x3 :: x4 :: x5 :: x6 :: x7 :: x8 :: x9 :: x10 :: x11 :: x12 :: x13 :: x14 :: x15 :: x16 :: x17 :: x18 :: x19 :: x20 :: x21 :: x22 :: x23 :: x24 :: x25 :: x26 :: l))[26]? = some x26 := rfl
theorem opAt27 {α : Type} {x0 x1 x2 x3 x4 x5 x6 x7 x8 x9 x10 x11 x12 x13 x14 x15 x16 x17 x18 x19 x20 x21 x22 x23 x24 x25 x26 x27 : α} {l : List α} : (List.toArray (x0 :: x1 :: x2 :: x3 :: x4 :: x5 :: x6 :: x7 :: x8 :: x9 :: x10 :: x11 :: x12 :: x13 :: x14 :: x15 :: x16 :: x17 :: x18 :: x19 :: x20 :: x21 :: x22 :: x23 :: x24 :: x25 :: x26 :: x27 :: l))[27]? = some x27 := rfl
theorem opAt28 {α : Type} {x0 x1 x2 x3 x4 x5 x6 x7 x8 x9 x10 x11 x12 x13 x14 x15 x16 x17 x18 x19 x20 x21 x22 x23 x24 x25 x26 x27 x28 : α} {l : List α} : (List.toArray (x0 :: x1 :: x2 :: x3 :: x4 :: x5 :: x6 :: x7 :: x8 :: x9 :: x10 :: x11 :: x12 :: x13 :: x14 :: x15 :: x16 :: x17 :: x18 :: x19 :: x20 :: x21 :: x22 :: x23 :: x24 :: x25 :: x26 :: x27 :: x28 :: l))[28]? = some x28 := rfl
theorem opAt29 {α : Type} {x0 x1 x2 x3 x4 x5 x6 x7 x8 x9 x10 x11 x12 x13 x14 x15 x16 x17 x18 x19 x20 x21 x22 x23 x24 x25 x26 x27 x28 x29 : α} {l : List α} : (List.toArray (x0 :: x1 :: x2 :: x3 :: x4 :: x5 :: x6 :: x7 :: x8 :: x9 :: x10 :: x11 :: x12 :: x13 :: x14 :: x15 :: x16 :: x17 :: x18 :: x19 :: x20 :: x21 :: x22 :: x23 :: x24 :: x25 :: x26 :: x27 :: x28 :: x29 :: l))[29]? = some x29 := rfl
theorem opAt30 {α : Type} {x0 x1 x2 x3 x4 x5 x6 x7 x8 x9 x10 x11 x12 x13 x14 x15 x16 x17 x18 x19 x20 x21 x22 x23 x24 x25 x26 x27 x28 x29 x30 : α} {l : List α} : (List.toArray (x0 :: x1 :: x2 :: x3 :: x4 :: x5 :: x6 :: x7 :: x8 :: x9 :: x10 :: x11 :: x12 :: x13 :: x14 :: x15 :: x16 :: x17 :: x18 :: x19 :: x20 :: x21 :: x22 :: x23 :: x24 :: x25 :: x26 :: x27 :: x28 :: x29 :: x30 :: l))[30]? = some x30 := rfl
set_option maxRecDepth 100000 in
set_option maxHeartbeats 8000000 in
theorem rmay_any (s : Sh) (ht : s.Trim) : ∀ (w : World) (S : Nat → Prop) (pe : Option Addr) (ce : Nat) (pk : Option Addr) (ck : Nat), (∀ b, S b → b < w.heap.size) → SIn w S s pe pk →
    Calls Try.prog 31 #[.agg #[.slice pe s.es.length ce, .slice pk s.kids.length ck]] w (BoolPost s.may w) := by
  induction ht with
  | @mk es ks htn hfl hhe hks ih =>
  intro w S pe ce pk ck hS hs
  have hk := hs.kids_
  have hbx := Boxed.new w pe es.length ce pk ks.length ck
  have hcF := fun (W : World) (hW : Boxed w pe es.length ce pk ks.length ck W) => rflat_any (.mk es ks) htn hfl W S pe ce pk ck (fun b hb => Nat.lt_of_lt_of_le (hS b hb) hW.bel.size) (hs.under hW.bel)
  simp only [Sh.es, Sh.kids] at hk hcF ⊢
  have Hbx := Lib.hid hbx
  have HcF := Lib.hid hcF
  have Hk := Lib.hid hk
  have Ih := Lib.hid ih
  have HS := Lib.hid hS
  have Htn := Lib.hid htn
  have Hks := Lib.hid hks
  have Hhe := Lib.hid hhe
  clear hk hs ih hS hbx hcF htn hks hhe
  go_enter Try.func31, Try.ntmps31
  go_upto_if 9 with fail
  go_cut [] (fun W1 => Hid (Boxed w pe es.length ce pk ks.length ck W1) ∧ Hid ((Sh.mk es ks).may = rising (Sh.mk es ks).flat))
  case first =>
    obtain ⟨b0, b1⟩ := Hbx.out.cells
    by_cases hnil : ks = []
    · obtain ⟨Hnil⟩ : Nonempty (Hid (ks = [])) := ⟨hnil⟩
      have hl0 : ks.length = 0 := by rw [hnil]; rfl
      have hz : (((ks.length : Nat) : Int) == 0) = true := by rw [hl0]; rfl
      clear hnil hl0
      by_cases h8 : es.length ≤ 8
      · have h8' : decide ((8 : Int) < (es.length : Int)) = false := decide_eq_false (by omega)
        go_wp2_with fail
        go_meet
        exact ⟨Hbx, by rw [Hid, Hnil.out]; exact may_leaf_eq es h8⟩
      · have h8' : decide ((8 : Int) < (es.length : Int)) = true := decide_eq_true (by omega)
        go_wp2_with fail
        go_ret
        refine ⟨?_, Hbx.out.bel⟩
        rw [Hnil.out]
        simp [Sh.may, h8]
    · obtain ⟨k0, l0, hk0⟩ : ∃ k0 l0, ks = k0 :: l0 := by
        cases ks with
        | nil => exact absurd rfl hnil
        | cons k0 l0 => exact ⟨_, _, rfl⟩
      have hpos : 0 < ks.length := List.length_pos_iff.2 hnil
      have hz : (((ks.length : Nat) : Int) == 0) = false := by rw [beq_eq_false_iff_ne]; omega
      have Hk0 := Lib.hid hk0
      clear hnil hk0
      simp only [hz]
      by_cases hbad : 0 < es.length ∨ ks.length < 2 ∨ 8 < ks.length
      · have hno : Hid ((Sh.mk es ks).may = false) := by
          cases hm : (Sh.mk es ks).may with
          | false => rfl
          | true =>
            obtain ⟨h1, h2, h3, _⟩ := (Sh.may_inner es ks (by rw [Hk0.out]; simp)).1 hm
            subst h1
            simp at hbad
            omega
        by_cases h1 : 0 < es.length
        · have h1' : decide ((0 : Int) < (es.length : Int)) = true := decide_eq_true (by omega)
          have h1'' : decide (0 < es.length) = true := decide_eq_true (by omega)
          go_wp2_with fail
          go_ret
          exact ⟨by rw [hno.out]; rfl, Hbx.out.bel⟩
        · have h1' : decide ((0 : Int) < (es.length : Int)) = false := decide_eq_false (by omega)
          have h1'' : decide (0 < es.length) = false := decide_eq_false (by omega)
          by_cases h2 : ks.length < 2
          · have h2' : decide ((ks.length : Int) < 2) = true := decide_eq_true (by omega)
            go_wp2_with fail
            go_ret
            exact ⟨by rw [hno.out]; rfl, Hbx.out.bel⟩
          · have h2' : decide ((ks.length : Int) < 2) = false := decide_eq_false (by omega)
            have h3' : decide ((8 : Int) < (ks.length : Int)) = true := decide_eq_true (by omega)
            go_wp2_with fail
            go_ret
            exact ⟨by rw [hno.out]; rfl, Hbx.out.bel⟩
      · have h1' : decide ((0 : Int) < (es.length : Int)) = false := decide_eq_false (by omega)
        have h1'' : decide (0 < es.length) = false := decide_eq_false (by omega)
        have h2' : decide ((ks.length : Int) < 2) = false := decide_eq_false (by omega)
        have h3' : decide ((8 : Int) < (ks.length : Int)) = false := decide_eq_false (by omega)
        obtain ⟨a, qe0, de0, qk0, dk0, rfl, k00, k01, hsk0⟩ := Hk.out.cells (i := 0) (k := k0) (by rw [Hk0.out]; rfl)
        simp only [Nat.zero_mul, add_zero] at k00 k01
        have ha := World.block_lt_of_cell? w _ k00
        have htk0 := Hks.out k0 (by rw [Hk0.out]; simp)
        have HcH0 := Lib.hid (fun (W : World) (hW : Below w.heap.size w W) => rheight_any k0 htk0.height_ W S qe0 de0 qk0 dk0 (hsk0.under hW))
        have K00 := Lib.hid k00
        have K01 := Lib.hid k01
        clear hsk0 htk0 k00 k01
        go_wp2_with fail
        go_loopg [3] ks.length (fun g vi wr => ∃ i : Nat, i ≤ ks.length ∧ g + i = ks.length ∧ vi = .int .i64 i ∧ Hid (∀ k ∈ ks.take i, kidOk k0.height k) ∧ Hid (Boxed w pe es.length ce (some a) ks.length ck wr))
        case atStart => exact ⟨0, by omega, by omega, rfl, (fun k hk => by simp at hk), Hbx⟩
        case round =>
          obtain ⟨i, hi, hgi, rfl, Ha, Hr⟩ := hrel
          obtain ⟨x0, x1⟩ := Hr.out.cells
          by_cases hlt : i < ks.length
          · obtain ⟨k, hk⟩ : ∃ k, ks[i]? = some k := ⟨_, List.getElem?_eq_getElem hlt⟩
            obtain ⟨a', qe, de, qk, dk, ha', c0, c1, hsk⟩ := Hk.out.cells hk
            injection ha' with ha'
            subst ha'
            have hax := World.block_lt_of_cell? w _ c0
            have c0' := Hr.out.bel.cell (p := a.add (i * 2)) hax
            have c1' := Hr.out.bel.cell (p := ⟨(a.add (i * 2)).block, (a.add (i * 2)).off + 1, none⟩) hax
            rw [c0] at c0'
            rw [c1] at c1'
            have z0' := Hr.out.bel.cell (p := a) ha
            have z1' := Hr.out.bel.cell (p := ⟨a.block, a.off + 1, none⟩) ha
            rw [K00.out] at z0'
            rw [K01.out] at z1'
            have hmem := List.mem_of_getElem? hk
            have htk := Hks.out k hmem
            have hsW := hsk.under Hr.out.bel
            have HcM := Lib.hid (Ih.out k hmem wr.drew S qe de qk dk (fun b hb => Nat.lt_of_lt_of_le (HS.out b hb) Hr.out.bel.size) hsW.drew)
            have HcFl := Lib.hid (fun (W : World) (hW : Below wr.heap.size wr W) => rflat_any k htk.thin htk.flat_ W S qe de qk dk (fun b hb => Nat.lt_of_lt_of_le (HS.out b hb) (Nat.le_trans Hr.out.bel.size hW.size)) (hsW.under hW))
            have HcH := Lib.hid (fun (W : World) (hW : Below wr.heap.size wr W) => rheight_any k htk.height_ W S qe de qk dk (hsW.under hW))
            have HK := Lib.hid hk
            have Hmem := Lib.hid hmem
            have Hbc : Hid (∀ (p : Addr) (v : Value) (W : World), Below wr.heap.size wr W → wr.cell? p = some v → W.cell? p = some v) := fun p v W hW h => by
              have hl := World.block_lt_of_cell? wr p h
              rw [hW.cell hl]; exact h
            clear c0 c1 hsk hk hsW htk hmem
            cases hm : k.may with
            | false =>
              have hno : Hid ((Sh.mk es ks).may = false) := by
                have h1 := Hmem.out
                rw [Hk0.out] at h1 ⊢
                exact may_bad_kid h1 fun h => by rw [h.1] at hm; cases hm
              rw [hm] at HcM
              go_wp2_with fail
              refine wp_region_held_drew (S := (fun w' => w'.cell? ⟨w.heap.size, 1, none⟩ = some (.slice (some a) ks.length ck) ∧ w'.cell? (a.add (i * 2)) = some (.slice qe k.es.length de) ∧ w'.cell? ⟨(a.add (i * 2)).block, (a.add (i * 2)).off + 1, none⟩ = some (.slice qk k.kids.length dk) ∧ w'.cell? a = some (.slice qe0 k0.es.length de0) ∧ w'.cell? ⟨a.block, a.off + 1, none⟩ = some (.slice qk0 k0.kids.length dk0))) (by kernel_rfl) ?_ (fun hHeld => ?_)
              · go_keep
              refine wpAnyH_take (i := 0) (v := ?v1) opAt0 (by kernel_rfl) (by kernel_rfl) (by kernel_rfl) (fun _ _ _ h => h) (Or.inl ⟨by rfl, ?h1⟩) (by assumption) ?_
              case h1 => (intro w hSw; (try dsimp only at hSw); go_simp; try with_reducible rfl)
              try simp only [Act.put, List.setIfInBounds_toArray, List.set_cons_zero, List.set_cons_succ]
              refine wpAnyH_take (i := 1) (v := ?v2) opAt1 (by kernel_rfl) (by kernel_rfl) (by kernel_rfl) (fun _ _ _ h => h) (Or.inl ⟨by rfl, ?h2⟩) (by assumption) ?_
              case h2 => (intro w hSw; (try dsimp only at hSw); go_simp; try with_reducible rfl)
              try simp only [Act.put, List.setIfInBounds_toArray, List.set_cons_zero, List.set_cons_succ]
              refine wpAnyH_take (i := 2) (v := ?v3) opAt2 (by kernel_rfl) (by kernel_rfl) (by kernel_rfl) (fun _ _ _ h => h) (Or.inl ⟨by rfl, ?h3⟩) (by assumption) ?_
              case h3 => (intro w hSw; (try dsimp only at hSw); go_simp; try with_reducible rfl)
              try simp only [Act.put, List.setIfInBounds_toArray, List.set_cons_zero, List.set_cons_succ]
              refine wpAnyH_take (i := 3) (v := ?v4) opAt3 (by kernel_rfl) (by kernel_rfl) (by kernel_rfl) (fun _ _ _ h => h) (Or.inl ⟨by rfl, ?h4⟩) (by assumption) ?_
              case h4 => (intro w hSw; (try dsimp only at hSw); go_simp; try with_reducible rfl)
              try simp only [Act.put, List.setIfInBounds_toArray, List.set_cons_zero, List.set_cons_succ]
              refine wpAnyH_take (i := 4) (v := ?v5) opAt4 (by kernel_rfl) (by kernel_rfl) (by kernel_rfl) (fun _ _ _ h => h) (Or.inl ⟨by rfl, ?h5⟩) (by assumption) ?_
              case h5 => (intro w hSw; (try dsimp only at hSw); go_simp; try with_reducible rfl)
              try simp only [Act.put, List.setIfInBounds_toArray, List.set_cons_zero, List.set_cons_succ]
              refine wpAnyH_ready (rs := [5]) (by kernel_rfl) (by simp) ?_
              refine AllReadyH.cons opAt5 (fun K hK => ?_) AllReadyH.nil
              go_simp
              (go_at_call 31; refine HcM.out.mono ?_; rintro e w1 ⟨rfl, hq1⟩; have hb1 := below_of_drew hq1; have n0 := Hbc.out _ _ _ hb1 x1; have n1 := Hbc.out _ _ _ hb1 c0'; have n2 := Hbc.out _ _ _ hb1 c1'; have n3 := Hbc.out _ _ _ hb1 z0'; have n4 := Hbc.out _ _ _ hb1 z1'; have Hq1 := Lib.hid hq1; have HB1 := Lib.hid hb1; clear hq1 hb1; try go_wp2_with fail)
              refine hK.out _ _ ?_ (fun hHeld => ?_)
              · go_keep
              clear hK K
              try simp only [Act.put, List.setIfInBounds_toArray, List.set_cons_zero, List.set_cons_succ]
              refine wpAnyH_take (i := 6) (v := ?v6) opAt6 (by kernel_rfl) (by kernel_rfl) (by kernel_rfl) (fun _ _ _ h => h) (Or.inl ⟨by rfl, ?h6⟩) (by assumption) ?_
              case h6 => (intro w hSw; (try dsimp only at hSw); go_simp; try with_reducible rfl)
              try simp only [Act.put, List.setIfInBounds_toArray, List.set_cons_zero, List.set_cons_succ]
              refine wpAnyH_take (i := 7) (v := ?v7) opAt7 (by kernel_rfl) (by kernel_rfl) (by kernel_rfl) (fun _ _ _ h => h) (Or.inl ⟨by rfl, ?h7⟩) (by assumption) ?_
              case h7 => (intro w hSw; (try dsimp only at hSw); go_simp; try with_reducible rfl)
              try simp only [Act.put, List.setIfInBounds_toArray, List.set_cons_zero, List.set_cons_succ]
              refine wpAnyH_take (i := 8) (v := undef) opAt8 (by kernel_rfl) (by kernel_rfl) (by kernel_rfl) (fun _ _ _ h => h) (Or.inr ⟨by rfl, rfl⟩) (by assumption) ?_
              try simp only [Act.put, List.setIfInBounds_toArray, List.set_cons_zero, List.set_cons_succ]
              refine wpAnyH_take (i := 9) (v := undef) opAt9 (by kernel_rfl) (by kernel_rfl) (by kernel_rfl) (fun _ _ _ h => h) (Or.inr ⟨by rfl, rfl⟩) (by assumption) ?_
              try simp only [Act.put, List.setIfInBounds_toArray, List.set_cons_zero, List.set_cons_succ]
              refine wpAnyH_take (i := 10) (v := undef) opAt10 (by kernel_rfl) (by kernel_rfl) (by kernel_rfl) (fun _ _ _ h => h) (Or.inr ⟨by rfl, rfl⟩) (by assumption) ?_
              try simp only [Act.put, List.setIfInBounds_toArray, List.set_cons_zero, List.set_cons_succ]
              refine wpAnyH_take (i := 11) (v := undef) opAt11 (by kernel_rfl) (by kernel_rfl) (by kernel_rfl) (fun _ _ _ h => h) (Or.inr ⟨by rfl, rfl⟩) (by assumption) ?_
              try simp only [Act.put, List.setIfInBounds_toArray, List.set_cons_zero, List.set_cons_succ]
              refine wpAnyH_take (i := 12) (v := undef) opAt12 (by kernel_rfl) (by kernel_rfl) (by kernel_rfl) (fun _ _ _ h => h) (Or.inr ⟨by rfl, rfl⟩) (by assumption) ?_
              try simp only [Act.put, List.setIfInBounds_toArray, List.set_cons_zero, List.set_cons_succ]
              refine wpAnyH_take (i := 13) (v := undef) opAt13 (by kernel_rfl) (by kernel_rfl) (by kernel_rfl) (fun _ _ _ h => h) (Or.inr ⟨by rfl, rfl⟩) (by assumption) ?_
              try simp only [Act.put, List.setIfInBounds_toArray, List.set_cons_zero, List.set_cons_succ]
              refine wpAnyH_take (i := 14) (v := undef) opAt14 (by kernel_rfl) (by kernel_rfl) (by kernel_rfl) (fun _ _ _ h => h) (Or.inr ⟨by rfl, rfl⟩) (by assumption) ?_
              try simp only [Act.put, List.setIfInBounds_toArray, List.set_cons_zero, List.set_cons_succ]
              refine wpAnyH_take (i := 15) (v := undef) opAt15 (by kernel_rfl) (by kernel_rfl) (by kernel_rfl) (fun _ _ _ h => h) (Or.inr ⟨by rfl, rfl⟩) (by assumption) ?_
              try simp only [Act.put, List.setIfInBounds_toArray, List.set_cons_zero, List.set_cons_succ]
              refine wpAnyH_take (i := 16) (v := ?v8) opAt16 (by kernel_rfl) (by kernel_rfl) (by kernel_rfl) (fun _ _ _ h => h) (Or.inl ⟨by rfl, ?h8⟩) (by assumption) ?_
              case h8 => (intro w hSw; (try dsimp only at hSw); go_simp; try with_reducible rfl)
              try simp only [Act.put, List.setIfInBounds_toArray, List.set_cons_zero, List.set_cons_succ]
              refine wpAnyH_take (i := 17) (v := ?v9) opAt17 (by kernel_rfl) (by kernel_rfl) (by kernel_rfl) (fun _ _ _ h => h) (Or.inl ⟨by rfl, ?h9⟩) (by assumption) ?_
              case h9 => (intro w hSw; (try dsimp only at hSw); go_simp; try with_reducible rfl)
              try simp only [Act.put, List.setIfInBounds_toArray, List.set_cons_zero, List.set_cons_succ]
              refine wpAnyH_take (i := 18) (v := undef) opAt18 (by kernel_rfl) (by kernel_rfl) (by kernel_rfl) (fun _ _ _ h => h) (Or.inr ⟨by rfl, rfl⟩) (by assumption) ?_
              try simp only [Act.put, List.setIfInBounds_toArray, List.set_cons_zero, List.set_cons_succ]
              refine wpAnyH_take (i := 19) (v := undef) opAt19 (by kernel_rfl) (by kernel_rfl) (by kernel_rfl) (fun _ _ _ h => h) (Or.inr ⟨by rfl, rfl⟩) (by assumption) ?_
              try simp only [Act.put, List.setIfInBounds_toArray, List.set_cons_zero, List.set_cons_succ]
              refine wpAnyH_take (i := 20) (v := undef) opAt20 (by kernel_rfl) (by kernel_rfl) (by kernel_rfl) (fun _ _ _ h => h) (Or.inr ⟨by rfl, rfl⟩) (by assumption) ?_
              try simp only [Act.put, List.setIfInBounds_toArray, List.set_cons_zero, List.set_cons_succ]
              refine wpAnyH_take (i := 21) (v := undef) opAt21 (by kernel_rfl) (by kernel_rfl) (by kernel_rfl) (fun _ _ _ h => h) (Or.inr ⟨by rfl, rfl⟩) (by assumption) ?_
              try simp only [Act.put, List.setIfInBounds_toArray, List.set_cons_zero, List.set_cons_succ]
              refine wpAnyH_take (i := 22) (v := undef) opAt22 (by kernel_rfl) (by kernel_rfl) (by kernel_rfl) (fun _ _ _ h => h) (Or.inr ⟨by rfl, rfl⟩) (by assumption) ?_
              try simp only [Act.put, List.setIfInBounds_toArray, List.set_cons_zero, List.set_cons_succ]
              refine wpAnyH_take (i := 23) (v := undef) opAt23 (by kernel_rfl) (by kernel_rfl) (by kernel_rfl) (fun _ _ _ h => h) (Or.inr ⟨by rfl, rfl⟩) (by assumption) ?_
              try simp only [Act.put, List.setIfInBounds_toArray, List.set_cons_zero, List.set_cons_succ]
              refine wpAnyH_take (i := 24) (v := undef) opAt24 (by kernel_rfl) (by kernel_rfl) (by kernel_rfl) (fun _ _ _ h => h) (Or.inr ⟨by rfl, rfl⟩) (by assumption) ?_
              try simp only [Act.put, List.setIfInBounds_toArray, List.set_cons_zero, List.set_cons_succ]
              refine wpAnyH_take (i := 25) (v := undef) opAt25 (by kernel_rfl) (by kernel_rfl) (by kernel_rfl) (fun _ _ _ h => h) (Or.inr ⟨by rfl, rfl⟩) (by assumption) ?_
              try simp only [Act.put, List.setIfInBounds_toArray, List.set_cons_zero, List.set_cons_succ]
              refine wpAnyH_take (i := 26) (v := undef) opAt26 (by kernel_rfl) (by kernel_rfl) (by kernel_rfl) (fun _ _ _ h => h) (Or.inr ⟨by rfl, rfl⟩) (by assumption) ?_
              try simp only [Act.put, List.setIfInBounds_toArray, List.set_cons_zero, List.set_cons_succ]
              refine wpAnyH_take (i := 27) (v := undef) opAt27 (by kernel_rfl) (by kernel_rfl) (by kernel_rfl) (fun _ _ _ h => h) (Or.inr ⟨by rfl, rfl⟩) (by assumption) ?_
              try simp only [Act.put, List.setIfInBounds_toArray, List.set_cons_zero, List.set_cons_succ]
              refine wpAnyH_take (i := 28) (v := undef) opAt28 (by kernel_rfl) (by kernel_rfl) (by kernel_rfl) (fun _ _ _ h => h) (Or.inr ⟨by rfl, rfl⟩) (by assumption) ?_
              try simp only [Act.put, List.setIfInBounds_toArray, List.set_cons_zero, List.set_cons_succ]
              refine wpAnyH_take (i := 29) (v := undef) opAt29 (by kernel_rfl) (by kernel_rfl) (by kernel_rfl) (fun _ _ _ h => h) (Or.inr ⟨by rfl, rfl⟩) (by assumption) ?_
              try simp only [Act.put, List.setIfInBounds_toArray, List.set_cons_zero, List.set_cons_succ]
              refine wpAnyH_take (i := 30) (v := ?v10) opAt30 (by kernel_rfl) (by kernel_rfl) (by kernel_rfl) (fun _ _ _ h => h) (Or.inl ⟨by rfl, ?h10⟩) (by assumption) ?_
              case h10 => (intro w hSw; (try dsimp only at hSw); go_simp; try with_reducible rfl)
              try simp only [Act.put, List.setIfInBounds_toArray, List.set_cons_zero, List.set_cons_succ]
              refine wpAnyH_done (by kernel_rfl) ?_ _
              go_wp2_with fail
              go_ret
              exact ⟨by rw [hno.out]; rfl, (Hr.out.under (below_of_drew Hq1.out)).bel⟩
            | true =>
              rw [hm] at HcM
              have Hmt := Lib.hid hm
              clear hm
              by_cases hfe : k.flat = []
              · have hno : Hid ((Sh.mk es ks).may = false) := by
                  have h1 := Hmem.out
                  rw [Hk0.out] at h1 ⊢
                  exact may_bad_kid h1 fun h => h.2.1 hfe
                have hl0 : k.flat.length = 0 := by rw [hfe]; rfl
                have hz0 : ((k.flat.length : Int) == 0) = true := by rw [hl0]; rfl
                clear hfe hl0
                go_wp2_with fail
                refine wp_region_held_drew (S := (fun w' => w'.cell? ⟨w.heap.size, 1, none⟩ = some (.slice (some a) ks.length ck) ∧ w'.cell? (a.add (i * 2)) = some (.slice qe k.es.length de) ∧ w'.cell? ⟨(a.add (i * 2)).block, (a.add (i * 2)).off + 1, none⟩ = some (.slice qk k.kids.length dk) ∧ w'.cell? a = some (.slice qe0 k0.es.length de0) ∧ w'.cell? ⟨a.block, a.off + 1, none⟩ = some (.slice qk0 k0.kids.length dk0))) (by kernel_rfl) ?_ (fun hHeld => ?_)
                · go_keep
                refine wpAnyH_take (i := 0) (v := ?v11) opAt0 (by kernel_rfl) (by kernel_rfl) (by kernel_rfl) (fun _ _ _ h => h) (Or.inl ⟨by rfl, ?h11⟩) (by assumption) ?_
                case h11 => (intro w hSw; (try dsimp only at hSw); go_simp; try with_reducible rfl)
                try simp only [Act.put, List.setIfInBounds_toArray, List.set_cons_zero, List.set_cons_succ]
                refine wpAnyH_take (i := 1) (v := ?v12) opAt1 (by kernel_rfl) (by kernel_rfl) (by kernel_rfl) (fun _ _ _ h => h) (Or.inl ⟨by rfl, ?h12⟩) (by assumption) ?_
                case h12 => (intro w hSw; (try dsimp only at hSw); go_simp; try with_reducible rfl)
                try simp only [Act.put, List.setIfInBounds_toArray, List.set_cons_zero, List.set_cons_succ]
                refine wpAnyH_take (i := 2) (v := ?v13) opAt2 (by kernel_rfl) (by kernel_rfl) (by kernel_rfl) (fun _ _ _ h => h) (Or.inl ⟨by rfl, ?h13⟩) (by assumption) ?_
                case h13 => (intro w hSw; (try dsimp only at hSw); go_simp; try with_reducible rfl)
                try simp only [Act.put, List.setIfInBounds_toArray, List.set_cons_zero, List.set_cons_succ]
                refine wpAnyH_take (i := 3) (v := ?v14) opAt3 (by kernel_rfl) (by kernel_rfl) (by kernel_rfl) (fun _ _ _ h => h) (Or.inl ⟨by rfl, ?h14⟩) (by assumption) ?_
                case h14 => (intro w hSw; (try dsimp only at hSw); go_simp; try with_reducible rfl)
                try simp only [Act.put, List.setIfInBounds_toArray, List.set_cons_zero, List.set_cons_succ]
                refine wpAnyH_take (i := 4) (v := ?v15) opAt4 (by kernel_rfl) (by kernel_rfl) (by kernel_rfl) (fun _ _ _ h => h) (Or.inl ⟨by rfl, ?h15⟩) (by assumption) ?_
                case h15 => (intro w hSw; (try dsimp only at hSw); go_simp; try with_reducible rfl)
                try simp only [Act.put, List.setIfInBounds_toArray, List.set_cons_zero, List.set_cons_succ]
                refine wpAnyH_ready (rs := [5]) (by kernel_rfl) (by simp) ?_
                refine AllReadyH.cons opAt5 (fun K hK => ?_) AllReadyH.nil
                go_simp
                (go_at_call 31; refine HcM.out.mono ?_; rintro e w1 ⟨rfl, hq1⟩; have hb1 := below_of_drew hq1; have n0 := Hbc.out _ _ _ hb1 x1; have n1 := Hbc.out _ _ _ hb1 c0'; have n2 := Hbc.out _ _ _ hb1 c1'; have n3 := Hbc.out _ _ _ hb1 z0'; have n4 := Hbc.out _ _ _ hb1 z1'; have Hq1 := Lib.hid hq1; have HB1 := Lib.hid hb1; clear hq1 hb1; try go_wp2_with fail)
                refine hK.out _ _ ?_ (fun hHeld => ?_)
                · go_keep
                clear hK K
                try simp only [Act.put, List.setIfInBounds_toArray, List.set_cons_zero, List.set_cons_succ]
                refine wpAnyH_take (i := 6) (v := ?v16) opAt6 (by kernel_rfl) (by kernel_rfl) (by kernel_rfl) (fun _ _ _ h => h) (Or.inl ⟨by rfl, ?h16⟩) (by assumption) ?_
                case h16 => (intro w hSw; (try dsimp only at hSw); go_simp; try with_reducible rfl)
                try simp only [Act.put, List.setIfInBounds_toArray, List.set_cons_zero, List.set_cons_succ]
                refine wpAnyH_take (i := 7) (v := ?v17) opAt7 (by kernel_rfl) (by kernel_rfl) (by kernel_rfl) (fun _ _ _ h => h) (Or.inl ⟨by rfl, ?h17⟩) (by assumption) ?_
                case h17 => (intro w hSw; (try dsimp only at hSw); go_simp; try with_reducible rfl)
                try simp only [Act.put, List.setIfInBounds_toArray, List.set_cons_zero, List.set_cons_succ]
                refine wpAnyH_take (i := 8) (v := ?v18) opAt8 (by kernel_rfl) (by kernel_rfl) (by kernel_rfl) (fun _ _ _ h => h) (Or.inl ⟨by rfl, ?h18⟩) (by assumption) ?_
                case h18 => (intro w hSw; (try dsimp only at hSw); go_simp; try with_reducible rfl)
                try simp only [Act.put, List.setIfInBounds_toArray, List.set_cons_zero, List.set_cons_succ]
                refine wpAnyH_take (i := 9) (v := ?v19) opAt9 (by kernel_rfl) (by kernel_rfl) (by kernel_rfl) (fun _ _ _ h => h) (Or.inl ⟨by rfl, ?h19⟩) (by assumption) ?_
                case h19 => (intro w hSw; (try dsimp only at hSw); go_simp; try with_reducible rfl)
                try simp only [Act.put, List.setIfInBounds_toArray, List.set_cons_zero, List.set_cons_succ]
                refine wpAnyH_take (i := 10) (v := ?v20) opAt10 (by kernel_rfl) (by kernel_rfl) (by kernel_rfl) (fun _ _ _ h => h) (Or.inl ⟨by rfl, ?h20⟩) (by assumption) ?_
                case h20 => (intro w hSw; (try dsimp only at hSw); go_simp; try with_reducible rfl)
                try simp only [Act.put, List.setIfInBounds_toArray, List.set_cons_zero, List.set_cons_succ]
                refine wpAnyH_take (i := 11) (v := ?v21) opAt11 (by kernel_rfl) (by kernel_rfl) (by kernel_rfl) (fun _ _ _ h => h) (Or.inl ⟨by rfl, ?h21⟩) (by assumption) ?_
                case h21 => (intro w hSw; (try dsimp only at hSw); go_simp; try with_reducible rfl)
                try simp only [Act.put, List.setIfInBounds_toArray, List.set_cons_zero, List.set_cons_succ]
                refine wpAnyH_take (i := 12) (v := ?v22) opAt12 (by kernel_rfl) (by kernel_rfl) (by kernel_rfl) (fun _ _ _ h => h) (Or.inl ⟨by rfl, ?h22⟩) (by assumption) ?_
                case h22 => (intro w hSw; (try dsimp only at hSw); go_simp; try with_reducible rfl)
                try simp only [Act.put, List.setIfInBounds_toArray, List.set_cons_zero, List.set_cons_succ]
                refine wpAnyH_ready (rs := [13]) (by kernel_rfl) (by simp) ?_
                refine AllReadyH.cons opAt13 (fun K hK => ?_) AllReadyH.nil
                go_simp
                (go_at_call 43; refine (HcFl.out w1 HB1.out).mono ?_; rintro e w2 ⟨p2, c2, rfl, hr2, hq2⟩; have hb2 := below_then HB1.out HB1.out.size hq2; have m0 := Hbc.out _ _ _ hb2 x1; have m1 := Hbc.out _ _ _ hb2 c0'; have m2 := Hbc.out _ _ _ hb2 c1'; have m3 := Hbc.out _ _ _ hb2 z0'; have m4 := Hbc.out _ _ _ hb2 z1'; have HB2 := Lib.hid hb2; clear hq2 hb2 hr2 n0 n1 n2 n3 n4; try go_wp2_with fail)
                refine hK.out _ _ ?_ (fun hHeld => ?_)
                · go_keep
                clear hK K
                try simp only [Act.put, List.setIfInBounds_toArray, List.set_cons_zero, List.set_cons_succ]
                refine wpAnyH_take (i := 14) (v := ?v23) opAt14 (by kernel_rfl) (by kernel_rfl) (by kernel_rfl) (fun _ _ _ h => h) (Or.inl ⟨by rfl, ?h23⟩) (by assumption) ?_
                case h23 => (intro w hSw; (try dsimp only at hSw); go_simp; try with_reducible rfl)
                try simp only [Act.put, List.setIfInBounds_toArray, List.set_cons_zero, List.set_cons_succ]
                refine wpAnyH_take (i := 15) (v := ?v24) opAt15 (by kernel_rfl) (by kernel_rfl) (by kernel_rfl) (fun _ _ _ h => h) (Or.inl ⟨by rfl, ?h24⟩) (by assumption) ?_
                case h24 => (intro w hSw; (try dsimp only at hSw); go_simp; try with_reducible rfl)
                try simp only [Act.put, List.setIfInBounds_toArray, List.set_cons_zero, List.set_cons_succ]
                refine wpAnyH_take (i := 16) (v := ?v25) opAt16 (by kernel_rfl) (by kernel_rfl) (by kernel_rfl) (fun _ _ _ h => h) (Or.inl ⟨by rfl, ?h25⟩) (by assumption) ?_
                case h25 => (intro w hSw; (try dsimp only at hSw); go_simp; try with_reducible rfl)
                try simp only [Act.put, List.setIfInBounds_toArray, List.set_cons_zero, List.set_cons_succ]
                refine wpAnyH_take (i := 17) (v := ?v26) opAt17 (by kernel_rfl) (by kernel_rfl) (by kernel_rfl) (fun _ _ _ h => h) (Or.inl ⟨by rfl, ?h26⟩) (by assumption) ?_
                case h26 => (intro w hSw; (try dsimp only at hSw); go_simp; try with_reducible rfl)
                try simp only [Act.put, List.setIfInBounds_toArray, List.set_cons_zero, List.set_cons_succ]
                refine wpAnyH_take (i := 18) (v := undef) opAt18 (by kernel_rfl) (by kernel_rfl) (by kernel_rfl) (fun _ _ _ h => h) (Or.inr ⟨by rfl, rfl⟩) (by assumption) ?_
                try simp only [Act.put, List.setIfInBounds_toArray, List.set_cons_zero, List.set_cons_succ]
                refine wpAnyH_take (i := 19) (v := undef) opAt19 (by kernel_rfl) (by kernel_rfl) (by kernel_rfl) (fun _ _ _ h => h) (Or.inr ⟨by rfl, rfl⟩) (by assumption) ?_
                try simp only [Act.put, List.setIfInBounds_toArray, List.set_cons_zero, List.set_cons_succ]
                refine wpAnyH_take (i := 20) (v := undef) opAt20 (by kernel_rfl) (by kernel_rfl) (by kernel_rfl) (fun _ _ _ h => h) (Or.inr ⟨by rfl, rfl⟩) (by assumption) ?_
                try simp only [Act.put, List.setIfInBounds_toArray, List.set_cons_zero, List.set_cons_succ]
                refine wpAnyH_take (i := 21) (v := undef) opAt21 (by kernel_rfl) (by kernel_rfl) (by kernel_rfl) (fun _ _ _ h => h) (Or.inr ⟨by rfl, rfl⟩) (by assumption) ?_
                try simp only [Act.put, List.setIfInBounds_toArray, List.set_cons_zero, List.set_cons_succ]
                refine wpAnyH_take (i := 22) (v := undef) opAt22 (by kernel_rfl) (by kernel_rfl) (by kernel_rfl) (fun _ _ _ h => h) (Or.inr ⟨by rfl, rfl⟩) (by assumption) ?_
                try simp only [Act.put, List.setIfInBounds_toArray, List.set_cons_zero, List.set_cons_succ]
                refine wpAnyH_take (i := 23) (v := undef) opAt23 (by kernel_rfl) (by kernel_rfl) (by kernel_rfl) (fun _ _ _ h => h) (Or.inr ⟨by rfl, rfl⟩) (by assumption) ?_
                try simp only [Act.put, List.setIfInBounds_toArray, List.set_cons_zero, List.set_cons_succ]
                refine wpAnyH_take (i := 24) (v := undef) opAt24 (by kernel_rfl) (by kernel_rfl) (by kernel_rfl) (fun _ _ _ h => h) (Or.inr ⟨by rfl, rfl⟩) (by assumption) ?_
                try simp only [Act.put, List.setIfInBounds_toArray, List.set_cons_zero, List.set_cons_succ]
                refine wpAnyH_take (i := 25) (v := undef) opAt25 (by kernel_rfl) (by kernel_rfl) (by kernel_rfl) (fun _ _ _ h => h) (Or.inr ⟨by rfl, rfl⟩) (by assumption) ?_
                try simp only [Act.put, List.setIfInBounds_toArray, List.set_cons_zero, List.set_cons_succ]
                refine wpAnyH_take (i := 26) (v := undef) opAt26 (by kernel_rfl) (by kernel_rfl) (by kernel_rfl) (fun _ _ _ h => h) (Or.inr ⟨by rfl, rfl⟩) (by assumption) ?_
                try simp only [Act.put, List.setIfInBounds_toArray, List.set_cons_zero, List.set_cons_succ]
                refine wpAnyH_take (i := 27) (v := undef) opAt27 (by kernel_rfl) (by kernel_rfl) (by kernel_rfl) (fun _ _ _ h => h) (Or.inr ⟨by rfl, rfl⟩) (by assumption) ?_
                try simp only [Act.put, List.setIfInBounds_toArray, List.set_cons_zero, List.set_cons_succ]
                refine wpAnyH_take (i := 28) (v := undef) opAt28 (by kernel_rfl) (by kernel_rfl) (by kernel_rfl) (fun _ _ _ h => h) (Or.inr ⟨by rfl, rfl⟩) (by assumption) ?_
                try simp only [Act.put, List.setIfInBounds_toArray, List.set_cons_zero, List.set_cons_succ]
                refine wpAnyH_take (i := 29) (v := undef) opAt29 (by kernel_rfl) (by kernel_rfl) (by kernel_rfl) (fun _ _ _ h => h) (Or.inr ⟨by rfl, rfl⟩) (by assumption) ?_
                try simp only [Act.put, List.setIfInBounds_toArray, List.set_cons_zero, List.set_cons_succ]
                refine wpAnyH_take (i := 30) (v := ?v27) opAt30 (by kernel_rfl) (by kernel_rfl) (by kernel_rfl) (fun _ _ _ h => h) (Or.inl ⟨by rfl, ?h27⟩) (by assumption) ?_
                case h27 => (intro w hSw; (try dsimp only at hSw); go_simp; try with_reducible rfl)
                try simp only [Act.put, List.setIfInBounds_toArray, List.set_cons_zero, List.set_cons_succ]
                refine wpAnyH_done (by kernel_rfl) ?_ _
                go_wp2_with fail
                go_ret
                exact ⟨by rw [hno.out]; rfl, (below_then Hr.out.bel Hr.out.bel.size HB2.out)⟩
              · have hz0 : ((k.flat.length : Int) == 0) = false := by
                  have := List.length_pos_iff.2 hfe
                  rw [beq_eq_false_iff_ne]; omega
                have Hfe := Lib.hid hfe
                clear hfe
                by_cases hh : k.height = k0.height
                · have hne : ((k.height : Int) != (k0.height : Int)) = false := by rw [hh]; simp
                  have Hh := Lib.hid hh
                  clear hh
                  go_wp2_with fail
                  refine wp_region_held_drew (S := (fun w' => w'.cell? ⟨w.heap.size, 1, none⟩ = some (.slice (some a) ks.length ck) ∧ w'.cell? (a.add (i * 2)) = some (.slice qe k.es.length de) ∧ w'.cell? ⟨(a.add (i * 2)).block, (a.add (i * 2)).off + 1, none⟩ = some (.slice qk k.kids.length dk) ∧ w'.cell? a = some (.slice qe0 k0.es.length de0) ∧ w'.cell? ⟨a.block, a.off + 1, none⟩ = some (.slice qk0 k0.kids.length dk0))) (by kernel_rfl) ?_ (fun hHeld => ?_)
                  · go_keep
                  refine wpAnyH_take (i := 0) (v := ?v28) opAt0 (by kernel_rfl) (by kernel_rfl) (by kernel_rfl) (fun _ _ _ h => h) (Or.inl ⟨by rfl, ?h28⟩) (by assumption) ?_
                  case h28 => (intro w hSw; (try dsimp only at hSw); go_simp; try with_reducible rfl)
                  try simp only [Act.put, List.setIfInBounds_toArray, List.set_cons_zero, List.set_cons_succ]
                  refine wpAnyH_take (i := 1) (v := ?v29) opAt1 (by kernel_rfl) (by kernel_rfl) (by kernel_rfl) (fun _ _ _ h => h) (Or.inl ⟨by rfl, ?h29⟩) (by assumption) ?_
                  case h29 => (intro w hSw; (try dsimp only at hSw); go_simp; try with_reducible rfl)
                  try simp only [Act.put, List.setIfInBounds_toArray, List.set_cons_zero, List.set_cons_succ]
                  refine wpAnyH_take (i := 2) (v := ?v30) opAt2 (by kernel_rfl) (by kernel_rfl) (by kernel_rfl) (fun _ _ _ h => h) (Or.inl ⟨by rfl, ?h30⟩) (by assumption) ?_
                  case h30 => (intro w hSw; (try dsimp only at hSw); go_simp; try with_reducible rfl)
                  try simp only [Act.put, List.setIfInBounds_toArray, List.set_cons_zero, List.set_cons_succ]
                  refine wpAnyH_take (i := 3) (v := ?v31) opAt3 (by kernel_rfl) (by kernel_rfl) (by kernel_rfl) (fun _ _ _ h => h) (Or.inl ⟨by rfl, ?h31⟩) (by assumption) ?_
                  case h31 => (intro w hSw; (try dsimp only at hSw); go_simp; try with_reducible rfl)
                  try simp only [Act.put, List.setIfInBounds_toArray, List.set_cons_zero, List.set_cons_succ]
                  refine wpAnyH_take (i := 4) (v := ?v32) opAt4 (by kernel_rfl) (by kernel_rfl) (by kernel_rfl) (fun _ _ _ h => h) (Or.inl ⟨by rfl, ?h32⟩) (by assumption) ?_
                  case h32 => (intro w hSw; (try dsimp only at hSw); go_simp; try with_reducible rfl)
                  try simp only [Act.put, List.setIfInBounds_toArray, List.set_cons_zero, List.set_cons_succ]
                  refine wpAnyH_ready (rs := [5]) (by kernel_rfl) (by simp) ?_
                  refine AllReadyH.cons opAt5 (fun K hK => ?_) AllReadyH.nil
                  go_simp
                  (go_at_call 31; refine HcM.out.mono ?_; rintro e w1 ⟨rfl, hq1⟩; have hb1 := below_of_drew hq1; have n0 := Hbc.out _ _ _ hb1 x1; have n1 := Hbc.out _ _ _ hb1 c0'; have n2 := Hbc.out _ _ _ hb1 c1'; have n3 := Hbc.out _ _ _ hb1 z0'; have n4 := Hbc.out _ _ _ hb1 z1'; have Hq1 := Lib.hid hq1; have HB1 := Lib.hid hb1; clear hq1 hb1; try go_wp2_with fail)
                  refine hK.out _ _ ?_ (fun hHeld => ?_)
                  · go_keep
                  clear hK K
                  try simp only [Act.put, List.setIfInBounds_toArray, List.set_cons_zero, List.set_cons_succ]
                  refine wpAnyH_take (i := 6) (v := ?v33) opAt6 (by kernel_rfl) (by kernel_rfl) (by kernel_rfl) (fun _ _ _ h => h) (Or.inl ⟨by rfl, ?h33⟩) (by assumption) ?_
                  case h33 => (intro w hSw; (try dsimp only at hSw); go_simp; try with_reducible rfl)
                  try simp only [Act.put, List.setIfInBounds_toArray, List.set_cons_zero, List.set_cons_succ]
                  refine wpAnyH_take (i := 7) (v := ?v34) opAt7 (by kernel_rfl) (by kernel_rfl) (by kernel_rfl) (fun _ _ _ h => h) (Or.inl ⟨by rfl, ?h34⟩) (by assumption) ?_
                  case h34 => (intro w hSw; (try dsimp only at hSw); go_simp; try with_reducible rfl)
                  try simp only [Act.put, List.setIfInBounds_toArray, List.set_cons_zero, List.set_cons_succ]
                  refine wpAnyH_take (i := 8) (v := ?v35) opAt8 (by kernel_rfl) (by kernel_rfl) (by kernel_rfl) (fun _ _ _ h => h) (Or.inl ⟨by rfl, ?h35⟩) (by assumption) ?_
                  case h35 => (intro w hSw; (try dsimp only at hSw); go_simp; try with_reducible rfl)
                  try simp only [Act.put, List.setIfInBounds_toArray, List.set_cons_zero, List.set_cons_succ]
                  refine wpAnyH_take (i := 9) (v := ?v36) opAt9 (by kernel_rfl) (by kernel_rfl) (by kernel_rfl) (fun _ _ _ h => h) (Or.inl ⟨by rfl, ?h36⟩) (by assumption) ?_
                  case h36 => (intro w hSw; (try dsimp only at hSw); go_simp; try with_reducible rfl)
                  try simp only [Act.put, List.setIfInBounds_toArray, List.set_cons_zero, List.set_cons_succ]
                  refine wpAnyH_take (i := 10) (v := ?v37) opAt10 (by kernel_rfl) (by kernel_rfl) (by kernel_rfl) (fun _ _ _ h => h) (Or.inl ⟨by rfl, ?h37⟩) (by assumption) ?_
                  case h37 => (intro w hSw; (try dsimp only at hSw); go_simp; try with_reducible rfl)
                  try simp only [Act.put, List.setIfInBounds_toArray, List.set_cons_zero, List.set_cons_succ]
                  refine wpAnyH_take (i := 11) (v := ?v38) opAt11 (by kernel_rfl) (by kernel_rfl) (by kernel_rfl) (fun _ _ _ h => h) (Or.inl ⟨by rfl, ?h38⟩) (by assumption) ?_
                  case h38 => (intro w hSw; (try dsimp only at hSw); go_simp; try with_reducible rfl)
                  try simp only [Act.put, List.setIfInBounds_toArray, List.set_cons_zero, List.set_cons_succ]
                  refine wpAnyH_take (i := 12) (v := ?v39) opAt12 (by kernel_rfl) (by kernel_rfl) (by kernel_rfl) (fun _ _ _ h => h) (Or.inl ⟨by rfl, ?h39⟩) (by assumption) ?_
                  case h39 => (intro w hSw; (try dsimp only at hSw); go_simp; try with_reducible rfl)
                  try simp only [Act.put, List.setIfInBounds_toArray, List.set_cons_zero, List.set_cons_succ]
                  refine wpAnyH_ready (rs := [13]) (by kernel_rfl) (by simp) ?_
                  refine AllReadyH.cons opAt13 (fun K hK => ?_) AllReadyH.nil
                  go_simp
                  (go_at_call 43; refine (HcFl.out w1 HB1.out).mono ?_; rintro e w2 ⟨p2, c2, rfl, hr2, hq2⟩; have hb2 := below_then HB1.out HB1.out.size hq2; have m0 := Hbc.out _ _ _ hb2 x1; have m1 := Hbc.out _ _ _ hb2 c0'; have m2 := Hbc.out _ _ _ hb2 c1'; have m3 := Hbc.out _ _ _ hb2 z0'; have m4 := Hbc.out _ _ _ hb2 z1'; have HB2 := Lib.hid hb2; clear hq2 hb2 hr2 n0 n1 n2 n3 n4; try go_wp2_with fail)
                  refine hK.out _ _ ?_ (fun hHeld => ?_)
                  · go_keep
                  clear hK K
                  try simp only [Act.put, List.setIfInBounds_toArray, List.set_cons_zero, List.set_cons_succ]
                  refine wpAnyH_take (i := 14) (v := ?v40) opAt14 (by kernel_rfl) (by kernel_rfl) (by kernel_rfl) (fun _ _ _ h => h) (Or.inl ⟨by rfl, ?h40⟩) (by assumption) ?_
                  case h40 => (intro w hSw; (try dsimp only at hSw); go_simp; try with_reducible rfl)
                  try simp only [Act.put, List.setIfInBounds_toArray, List.set_cons_zero, List.set_cons_succ]
                  refine wpAnyH_take (i := 15) (v := ?v41) opAt15 (by kernel_rfl) (by kernel_rfl) (by kernel_rfl) (fun _ _ _ h => h) (Or.inl ⟨by rfl, ?h41⟩) (by assumption) ?_
                  case h41 => (intro w hSw; (try dsimp only at hSw); go_simp; try with_reducible rfl)
                  try simp only [Act.put, List.setIfInBounds_toArray, List.set_cons_zero, List.set_cons_succ]
                  refine wpAnyH_take (i := 16) (v := ?v42) opAt16 (by kernel_rfl) (by kernel_rfl) (by kernel_rfl) (fun _ _ _ h => h) (Or.inl ⟨by rfl, ?h42⟩) (by assumption) ?_
                  case h42 => (intro w hSw; (try dsimp only at hSw); go_simp; try with_reducible rfl)
                  try simp only [Act.put, List.setIfInBounds_toArray, List.set_cons_zero, List.set_cons_succ]
                  refine wpAnyH_take (i := 17) (v := ?v43) opAt17 (by kernel_rfl) (by kernel_rfl) (by kernel_rfl) (fun _ _ _ h => h) (Or.inl ⟨by rfl, ?h43⟩) (by assumption) ?_
                  case h43 => (intro w hSw; (try dsimp only at hSw); go_simp; try with_reducible rfl)
                  try simp only [Act.put, List.setIfInBounds_toArray, List.set_cons_zero, List.set_cons_succ]
                  refine wpAnyH_take (i := 18) (v := ?v44) opAt18 (by kernel_rfl) (by kernel_rfl) (by kernel_rfl) (fun _ _ _ h => h) (Or.inl ⟨by rfl, ?h44⟩) (by assumption) ?_
                  case h44 => (intro w hSw; (try dsimp only at hSw); go_simp; try with_reducible rfl)
                  try simp only [Act.put, List.setIfInBounds_toArray, List.set_cons_zero, List.set_cons_succ]
                  refine wpAnyH_take (i := 19) (v := ?v45) opAt19 (by kernel_rfl) (by kernel_rfl) (by kernel_rfl) (fun _ _ _ h => h) (Or.inl ⟨by rfl, ?h45⟩) (by assumption) ?_
                  case h45 => (intro w hSw; (try dsimp only at hSw); go_simp; try with_reducible rfl)
                  try simp only [Act.put, List.setIfInBounds_toArray, List.set_cons_zero, List.set_cons_succ]
                  refine wpAnyH_take (i := 20) (v := ?v46) opAt20 (by kernel_rfl) (by kernel_rfl) (by kernel_rfl) (fun _ _ _ h => h) (Or.inl ⟨by rfl, ?h46⟩) (by assumption) ?_
                  case h46 => (intro w hSw; (try dsimp only at hSw); go_simp; try with_reducible rfl)
                  try simp only [Act.put, List.setIfInBounds_toArray, List.set_cons_zero, List.set_cons_succ]
                  refine wpAnyH_take (i := 21) (v := ?v47) opAt21 (by kernel_rfl) (by kernel_rfl) (by kernel_rfl) (fun _ _ _ h => h) (Or.inl ⟨by rfl, ?h47⟩) (by assumption) ?_
                  case h47 => (intro w hSw; (try dsimp only at hSw); go_simp; try with_reducible rfl)
                  try simp only [Act.put, List.setIfInBounds_toArray, List.set_cons_zero, List.set_cons_succ]
                  refine wpAnyH_take (i := 22) (v := ?v48) opAt22 (by kernel_rfl) (by kernel_rfl) (by kernel_rfl) (fun _ _ _ h => h) (Or.inl ⟨by rfl, ?h48⟩) (by assumption) ?_
                  case h48 => (intro w hSw; (try dsimp only at hSw); go_simp; try with_reducible rfl)
                  try simp only [Act.put, List.setIfInBounds_toArray, List.set_cons_zero, List.set_cons_succ]
                  refine wpAnyH_take (i := 24) (v := ?v49) opAt24 (by kernel_rfl) (by kernel_rfl) (by kernel_rfl) (fun _ _ _ h => h) (Or.inl ⟨by rfl, ?h49⟩) (by assumption) ?_
                  case h49 => (intro w hSw; (try dsimp only at hSw); go_simp; try with_reducible rfl)
                  try simp only [Act.put, List.setIfInBounds_toArray, List.set_cons_zero, List.set_cons_succ]
                  refine wpAnyH_take (i := 25) (v := ?v50) opAt25 (by kernel_rfl) (by kernel_rfl) (by kernel_rfl) (fun _ _ _ h => h) (Or.inl ⟨by rfl, ?h50⟩) (by assumption) ?_
                  case h50 => (intro w hSw; (try dsimp only at hSw); go_simp; try with_reducible rfl)
                  try simp only [Act.put, List.setIfInBounds_toArray, List.set_cons_zero, List.set_cons_succ]
                  refine wpAnyH_take (i := 26) (v := ?v51) opAt26 (by kernel_rfl) (by kernel_rfl) (by kernel_rfl) (fun _ _ _ h => h) (Or.inl ⟨by rfl, ?h51⟩) (by assumption) ?_
                  case h51 => (intro w hSw; (try dsimp only at hSw); go_simp; try with_reducible rfl)
                  try simp only [Act.put, List.setIfInBounds_toArray, List.set_cons_zero, List.set_cons_succ]
                  refine wpAnyH_take (i := 27) (v := ?v52) opAt27 (by kernel_rfl) (by kernel_rfl) (by kernel_rfl) (fun _ _ _ h => h) (Or.inl ⟨by rfl, ?h52⟩) (by assumption) ?_
                  case h52 => (intro w hSw; (try dsimp only at hSw); go_simp; try with_reducible rfl)
                  try simp only [Act.put, List.setIfInBounds_toArray, List.set_cons_zero, List.set_cons_succ]
                  refine wpAnyH_ready (rs := [23]) (by kernel_rfl) (by simp) ?_
                  refine AllReadyH.cons opAt23 (fun K hK => ?_) AllReadyH.nil
                  go_simp
                  (go_at_call 45; refine (HcH.out w2 HB2.out).mono ?_; rintro e w3 ⟨rfl, hq3⟩; have hb3 := below_then HB2.out HB2.out.size hq3; have o0 := Hbc.out _ _ _ hb3 x1; have o1 := Hbc.out _ _ _ hb3 c0'; have o2 := Hbc.out _ _ _ hb3 c1'; have o3 := Hbc.out _ _ _ hb3 z0'; have o4 := Hbc.out _ _ _ hb3 z1'; have HB3 := Lib.hid hb3; clear hq3 hb3 m0 m1 m2 m3 m4; try go_wp2_with fail)
                  refine hK.out _ _ ?_ (fun hHeld => ?_)
                  · go_keep
                  clear hK K
                  try simp only [Act.put, List.setIfInBounds_toArray, List.set_cons_zero, List.set_cons_succ]
                  refine wpAnyH_ready (rs := [28]) (by kernel_rfl) (by simp) ?_
                  refine AllReadyH.cons opAt28 (fun K hK => ?_) AllReadyH.nil
                  go_simp
                  (go_at_call 45; refine (HcH0.out w3 (below_then Hr.out.bel Hr.out.bel.size HB3.out)).mono ?_; rintro e w4 ⟨rfl, hq4⟩; have hb4 := below_then HB3.out HB3.out.size hq4; have p0 := Hbc.out _ _ _ hb4 x1; have p1 := Hbc.out _ _ _ hb4 c0'; have p2 := Hbc.out _ _ _ hb4 c1'; have p3 := Hbc.out _ _ _ hb4 z0'; have p4 := Hbc.out _ _ _ hb4 z1'; have HB4 := Lib.hid hb4; clear hq4 hb4 o0 o1 o2 o3 o4; try go_wp2_with fail)
                  refine hK.out _ _ ?_ (fun hHeld => ?_)
                  · go_keep
                  clear hK K
                  try simp only [Act.put, List.setIfInBounds_toArray, List.set_cons_zero, List.set_cons_succ]
                  refine wpAnyH_take (i := 29) (v := ?v53) opAt29 (by kernel_rfl) (by kernel_rfl) (by kernel_rfl) (fun _ _ _ h => h) (Or.inl ⟨by rfl, ?h53⟩) (by assumption) ?_
                  case h53 => (intro w hSw; (try dsimp only at hSw); go_simp; try with_reducible rfl)
                  try simp only [Act.put, List.setIfInBounds_toArray, List.set_cons_zero, List.set_cons_succ]
                  refine wpAnyH_take (i := 30) (v := ?v54) opAt30 (by kernel_rfl) (by kernel_rfl) (by kernel_rfl) (fun _ _ _ h => h) (Or.inl ⟨by rfl, ?h54⟩) (by assumption) ?_
                  case h54 => (intro w hSw; (try dsimp only at hSw); go_simp; try with_reducible rfl)
                  try simp only [Act.put, List.setIfInBounds_toArray, List.set_cons_zero, List.set_cons_succ]
                  refine wpAnyH_done (by kernel_rfl) ?_ _
                  go_wp2_with fail
                  go_roundg (ks.length - (i + 1))
                  case measure => omega
                  case rel =>
                    refine ⟨i + 1, by omega, by omega, by go_num, ?_, Hr.out.under HB4.out⟩
                    intro x hx
                    rw [List.take_add_one, HK.out] at hx
                    rcases List.mem_append.1 hx with hx | hx
                    · exact Ha.out x hx
                    · simp at hx; subst hx; exact ⟨Hmt.out, Hfe.out, Hh.out⟩
                · have hne : ((k.height : Int) != (k0.height : Int)) = true := by rw [bne_iff_ne]; omega
                  have hno : Hid ((Sh.mk es ks).may = false) := by
                    have h1 := Hmem.out
                    rw [Hk0.out] at h1 ⊢
                    exact may_bad_kid h1 fun h => hh h.2.2
                  clear hh
                  go_wp2_with fail
                  refine wp_region_held_drew (S := (fun w' => w'.cell? ⟨w.heap.size, 1, none⟩ = some (.slice (some a) ks.length ck) ∧ w'.cell? (a.add (i * 2)) = some (.slice qe k.es.length de) ∧ w'.cell? ⟨(a.add (i * 2)).block, (a.add (i * 2)).off + 1, none⟩ = some (.slice qk k.kids.length dk) ∧ w'.cell? a = some (.slice qe0 k0.es.length de0) ∧ w'.cell? ⟨a.block, a.off + 1, none⟩ = some (.slice qk0 k0.kids.length dk0))) (by kernel_rfl) ?_ (fun hHeld => ?_)
                  · go_keep
                  refine wpAnyH_take (i := 0) (v := ?v55) opAt0 (by kernel_rfl) (by kernel_rfl) (by kernel_rfl) (fun _ _ _ h => h) (Or.inl ⟨by rfl, ?h55⟩) (by assumption) ?_
                  case h55 => (intro w hSw; (try dsimp only at hSw); go_simp; try with_reducible rfl)
                  try simp only [Act.put, List.setIfInBounds_toArray, List.set_cons_zero, List.set_cons_succ]
                  refine wpAnyH_take (i := 1) (v := ?v56) opAt1 (by kernel_rfl) (by kernel_rfl) (by kernel_rfl) (fun _ _ _ h => h) (Or.inl ⟨by rfl, ?h56⟩) (by assumption) ?_
                  case h56 => (intro w hSw; (try dsimp only at hSw); go_simp; try with_reducible rfl)
                  try simp only [Act.put, List.setIfInBounds_toArray, List.set_cons_zero, List.set_cons_succ]
                  refine wpAnyH_take (i := 2) (v := ?v57) opAt2 (by kernel_rfl) (by kernel_rfl) (by kernel_rfl) (fun _ _ _ h => h) (Or.inl ⟨by rfl, ?h57⟩) (by assumption) ?_
                  case h57 => (intro w hSw; (try dsimp only at hSw); go_simp; try with_reducible rfl)
                  try simp only [Act.put, List.setIfInBounds_toArray, List.set_cons_zero, List.set_cons_succ]
                  refine wpAnyH_take (i := 3) (v := ?v58) opAt3 (by kernel_rfl) (by kernel_rfl) (by kernel_rfl) (fun _ _ _ h => h) (Or.inl ⟨by rfl, ?h58⟩) (by assumption) ?_
                  case h58 => (intro w hSw; (try dsimp only at hSw); go_simp; try with_reducible rfl)
                  try simp only [Act.put, List.setIfInBounds_toArray, List.set_cons_zero, List.set_cons_succ]
                  refine wpAnyH_take (i := 4) (v := ?v59) opAt4 (by kernel_rfl) (by kernel_rfl) (by kernel_rfl) (fun _ _ _ h => h) (Or.inl ⟨by rfl, ?h59⟩) (by assumption) ?_
                  case h59 => (intro w hSw; (try dsimp only at hSw); go_simp; try with_reducible rfl)
                  try simp only [Act.put, List.setIfInBounds_toArray, List.set_cons_zero, List.set_cons_succ]
                  refine wpAnyH_ready (rs := [5]) (by kernel_rfl) (by simp) ?_
                  refine AllReadyH.cons opAt5 (fun K hK => ?_) AllReadyH.nil
                  go_simp
                  (go_at_call 31; refine HcM.out.mono ?_; rintro e w1 ⟨rfl, hq1⟩; have hb1 := below_of_drew hq1; have n0 := Hbc.out _ _ _ hb1 x1; have n1 := Hbc.out _ _ _ hb1 c0'; have n2 := Hbc.out _ _ _ hb1 c1'; have n3 := Hbc.out _ _ _ hb1 z0'; have n4 := Hbc.out _ _ _ hb1 z1'; have Hq1 := Lib.hid hq1; have HB1 := Lib.hid hb1; clear hq1 hb1; try go_wp2_with fail)
                  refine hK.out _ _ ?_ (fun hHeld => ?_)
                  · go_keep
                  clear hK K
                  try simp only [Act.put, List.setIfInBounds_toArray, List.set_cons_zero, List.set_cons_succ]
                  refine wpAnyH_take (i := 6) (v := ?v60) opAt6 (by kernel_rfl) (by kernel_rfl) (by kernel_rfl) (fun _ _ _ h => h) (Or.inl ⟨by rfl, ?h60⟩) (by assumption) ?_
                  case h60 => (intro w hSw; (try dsimp only at hSw); go_simp; try with_reducible rfl)
                  try simp only [Act.put, List.setIfInBounds_toArray, List.set_cons_zero, List.set_cons_succ]
                  refine wpAnyH_take (i := 7) (v := ?v61) opAt7 (by kernel_rfl) (by kernel_rfl) (by kernel_rfl) (fun _ _ _ h => h) (Or.inl ⟨by rfl, ?h61⟩) (by assumption) ?_
                  case h61 => (intro w hSw; (try dsimp only at hSw); go_simp; try with_reducible rfl)
                  try simp only [Act.put, List.setIfInBounds_toArray, List.set_cons_zero, List.set_cons_succ]
                  refine wpAnyH_take (i := 8) (v := ?v62) opAt8 (by kernel_rfl) (by kernel_rfl) (by kernel_rfl) (fun _ _ _ h => h) (Or.inl ⟨by rfl, ?h62⟩) (by assumption) ?_
                  case h62 => (intro w hSw; (try dsimp only at hSw); go_simp; try with_reducible rfl)
                  try simp only [Act.put, List.setIfInBounds_toArray, List.set_cons_zero, List.set_cons_succ]
                  refine wpAnyH_take (i := 9) (v := ?v63) opAt9 (by kernel_rfl) (by kernel_rfl) (by kernel_rfl) (fun _ _ _ h => h) (Or.inl ⟨by rfl, ?h63⟩) (by assumption) ?_
                  case h63 => (intro w hSw; (try dsimp only at hSw); go_simp; try with_reducible rfl)
                  try simp only [Act.put, List.setIfInBounds_toArray, List.set_cons_zero, List.set_cons_succ]
                  refine wpAnyH_take (i := 10) (v := ?v64) opAt10 (by kernel_rfl) (by kernel_rfl) (by kernel_rfl) (fun _ _ _ h => h) (Or.inl ⟨by rfl, ?h64⟩) (by assumption) ?_
                  case h64 => (intro w hSw; (try dsimp only at hSw); go_simp; try with_reducible rfl)
                  try simp only [Act.put, List.setIfInBounds_toArray, List.set_cons_zero, List.set_cons_succ]
                  refine wpAnyH_take (i := 11) (v := ?v65) opAt11 (by kernel_rfl) (by kernel_rfl) (by kernel_rfl) (fun _ _ _ h => h) (Or.inl ⟨by rfl, ?h65⟩) (by assumption) ?_
                  case h65 => (intro w hSw; (try dsimp only at hSw); go_simp; try with_reducible rfl)
                  try simp only [Act.put, List.setIfInBounds_toArray, List.set_cons_zero, List.set_cons_succ]
                  refine wpAnyH_take (i := 12) (v := ?v66) opAt12 (by kernel_rfl) (by kernel_rfl) (by kernel_rfl) (fun _ _ _ h => h) (Or.inl ⟨by rfl, ?h66⟩) (by assumption) ?_
                  case h66 => (intro w hSw; (try dsimp only at hSw); go_simp; try with_reducible rfl)
                  try simp only [Act.put, List.setIfInBounds_toArray, List.set_cons_zero, List.set_cons_succ]
                  refine wpAnyH_ready (rs := [13]) (by kernel_rfl) (by simp) ?_
                  refine AllReadyH.cons opAt13 (fun K hK => ?_) AllReadyH.nil
                  go_simp
                  (go_at_call 43; refine (HcFl.out w1 HB1.out).mono ?_; rintro e w2 ⟨p2, c2, rfl, hr2, hq2⟩; have hb2 := below_then HB1.out HB1.out.size hq2; have m0 := Hbc.out _ _ _ hb2 x1; have m1 := Hbc.out _ _ _ hb2 c0'; have m2 := Hbc.out _ _ _ hb2 c1'; have m3 := Hbc.out _ _ _ hb2 z0'; have m4 := Hbc.out _ _ _ hb2 z1'; have HB2 := Lib.hid hb2; clear hq2 hb2 hr2 n0 n1 n2 n3 n4; try go_wp2_with fail)
                  refine hK.out _ _ ?_ (fun hHeld => ?_)
                  · go_keep
                  clear hK K
                  try simp only [Act.put, List.setIfInBounds_toArray, List.set_cons_zero, List.set_cons_succ]
                  refine wpAnyH_take (i := 14) (v := ?v67) opAt14 (by kernel_rfl) (by kernel_rfl) (by kernel_rfl) (fun _ _ _ h => h) (Or.inl ⟨by rfl, ?h67⟩) (by assumption) ?_
                  case h67 => (intro w hSw; (try dsimp only at hSw); go_simp; try with_reducible rfl)
                  try simp only [Act.put, List.setIfInBounds_toArray, List.set_cons_zero, List.set_cons_succ]
                  refine wpAnyH_take (i := 15) (v := ?v68) opAt15 (by kernel_rfl) (by kernel_rfl) (by kernel_rfl) (fun _ _ _ h => h) (Or.inl ⟨by rfl, ?h68⟩) (by assumption) ?_
                  case h68 => (intro w hSw; (try dsimp only at hSw); go_simp; try with_reducible rfl)
                  try simp only [Act.put, List.setIfInBounds_toArray, List.set_cons_zero, List.set_cons_succ]
                  refine wpAnyH_take (i := 16) (v := ?v69) opAt16 (by kernel_rfl) (by kernel_rfl) (by kernel_rfl) (fun _ _ _ h => h) (Or.inl ⟨by rfl, ?h69⟩) (by assumption) ?_
                  case h69 => (intro w hSw; (try dsimp only at hSw); go_simp; try with_reducible rfl)
                  try simp only [Act.put, List.setIfInBounds_toArray, List.set_cons_zero, List.set_cons_succ]
                  refine wpAnyH_take (i := 17) (v := ?v70) opAt17 (by kernel_rfl) (by kernel_rfl) (by kernel_rfl) (fun _ _ _ h => h) (Or.inl ⟨by rfl, ?h70⟩) (by assumption) ?_
                  case h70 => (intro w hSw; (try dsimp only at hSw); go_simp; try with_reducible rfl)
                  try simp only [Act.put, List.setIfInBounds_toArray, List.set_cons_zero, List.set_cons_succ]
                  refine wpAnyH_take (i := 18) (v := ?v71) opAt18 (by kernel_rfl) (by kernel_rfl) (by kernel_rfl) (fun _ _ _ h => h) (Or.inl ⟨by rfl, ?h71⟩) (by assumption) ?_
                  case h71 => (intro w hSw; (try dsimp only at hSw); go_simp; try with_reducible rfl)
                  try simp only [Act.put, List.setIfInBounds_toArray, List.set_cons_zero, List.set_cons_succ]
                  refine wpAnyH_take (i := 19) (v := ?v72) opAt19 (by kernel_rfl) (by kernel_rfl) (by kernel_rfl) (fun _ _ _ h => h) (Or.inl ⟨by rfl, ?h72⟩) (by assumption) ?_
                  case h72 => (intro w hSw; (try dsimp only at hSw); go_simp; try with_reducible rfl)
                  try simp only [Act.put, List.setIfInBounds_toArray, List.set_cons_zero, List.set_cons_succ]
                  refine wpAnyH_take (i := 20) (v := ?v73) opAt20 (by kernel_rfl) (by kernel_rfl) (by kernel_rfl) (fun _ _ _ h => h) (Or.inl ⟨by rfl, ?h73⟩) (by assumption) ?_
                  case h73 => (intro w hSw; (try dsimp only at hSw); go_simp; try with_reducible rfl)
                  try simp only [Act.put, List.setIfInBounds_toArray, List.set_cons_zero, List.set_cons_succ]
                  refine wpAnyH_take (i := 21) (v := ?v74) opAt21 (by kernel_rfl) (by kernel_rfl) (by kernel_rfl) (fun _ _ _ h => h) (Or.inl ⟨by rfl, ?h74⟩) (by assumption) ?_
                  case h74 => (intro w hSw; (try dsimp only at hSw); go_simp; try with_reducible rfl)
                  try simp only [Act.put, List.setIfInBounds_toArray, List.set_cons_zero, List.set_cons_succ]
                  refine wpAnyH_take (i := 22) (v := ?v75) opAt22 (by kernel_rfl) (by kernel_rfl) (by kernel_rfl) (fun _ _ _ h => h) (Or.inl ⟨by rfl, ?h75⟩) (by assumption) ?_
                  case h75 => (intro w hSw; (try dsimp only at hSw); go_simp; try with_reducible rfl)
                  try simp only [Act.put, List.setIfInBounds_toArray, List.set_cons_zero, List.set_cons_succ]
                  refine wpAnyH_take (i := 24) (v := ?v76) opAt24 (by kernel_rfl) (by kernel_rfl) (by kernel_rfl) (fun _ _ _ h => h) (Or.inl ⟨by rfl, ?h76⟩) (by assumption) ?_
                  case h76 => (intro w hSw; (try dsimp only at hSw); go_simp; try with_reducible rfl)
                  try simp only [Act.put, List.setIfInBounds_toArray, List.set_cons_zero, List.set_cons_succ]
                  refine wpAnyH_take (i := 25) (v := ?v77) opAt25 (by kernel_rfl) (by kernel_rfl) (by kernel_rfl) (fun _ _ _ h => h) (Or.inl ⟨by rfl, ?h77⟩) (by assumption) ?_
                  case h77 => (intro w hSw; (try dsimp only at hSw); go_simp; try with_reducible rfl)
                  try simp only [Act.put, List.setIfInBounds_toArray, List.set_cons_zero, List.set_cons_succ]
                  refine wpAnyH_take (i := 26) (v := ?v78) opAt26 (by kernel_rfl) (by kernel_rfl) (by kernel_rfl) (fun _ _ _ h => h) (Or.inl ⟨by rfl, ?h78⟩) (by assumption) ?_
                  case h78 => (intro w hSw; (try dsimp only at hSw); go_simp; try with_reducible rfl)
                  try simp only [Act.put, List.setIfInBounds_toArray, List.set_cons_zero, List.set_cons_succ]
                  refine wpAnyH_take (i := 27) (v := ?v79) opAt27 (by kernel_rfl) (by kernel_rfl) (by kernel_rfl) (fun _ _ _ h => h) (Or.inl ⟨by rfl, ?h79⟩) (by assumption) ?_
                  case h79 => (intro w hSw; (try dsimp only at hSw); go_simp; try with_reducible rfl)
                  try simp only [Act.put, List.setIfInBounds_toArray, List.set_cons_zero, List.set_cons_succ]
                  refine wpAnyH_ready (rs := [23]) (by kernel_rfl) (by simp) ?_
                  refine AllReadyH.cons opAt23 (fun K hK => ?_) AllReadyH.nil
                  go_simp
                  (go_at_call 45; refine (HcH.out w2 HB2.out).mono ?_; rintro e w3 ⟨rfl, hq3⟩; have hb3 := below_then HB2.out HB2.out.size hq3; have o0 := Hbc.out _ _ _ hb3 x1; have o1 := Hbc.out _ _ _ hb3 c0'; have o2 := Hbc.out _ _ _ hb3 c1'; have o3 := Hbc.out _ _ _ hb3 z0'; have o4 := Hbc.out _ _ _ hb3 z1'; have HB3 := Lib.hid hb3; clear hq3 hb3 m0 m1 m2 m3 m4; try go_wp2_with fail)
                  refine hK.out _ _ ?_ (fun hHeld => ?_)
                  · go_keep
                  clear hK K
                  try simp only [Act.put, List.setIfInBounds_toArray, List.set_cons_zero, List.set_cons_succ]
                  refine wpAnyH_ready (rs := [28]) (by kernel_rfl) (by simp) ?_
                  refine AllReadyH.cons opAt28 (fun K hK => ?_) AllReadyH.nil
                  go_simp
                  (go_at_call 45; refine (HcH0.out w3 (below_then Hr.out.bel Hr.out.bel.size HB3.out)).mono ?_; rintro e w4 ⟨rfl, hq4⟩; have hb4 := below_then HB3.out HB3.out.size hq4; have p0 := Hbc.out _ _ _ hb4 x1; have p1 := Hbc.out _ _ _ hb4 c0'; have p2 := Hbc.out _ _ _ hb4 c1'; have p3 := Hbc.out _ _ _ hb4 z0'; have p4 := Hbc.out _ _ _ hb4 z1'; have HB4 := Lib.hid hb4; clear hq4 hb4 o0 o1 o2 o3 o4; try go_wp2_with fail)
                  refine hK.out _ _ ?_ (fun hHeld => ?_)
                  · go_keep
                  clear hK K
                  try simp only [Act.put, List.setIfInBounds_toArray, List.set_cons_zero, List.set_cons_succ]
                  refine wpAnyH_take (i := 29) (v := ?v80) opAt29 (by kernel_rfl) (by kernel_rfl) (by kernel_rfl) (fun _ _ _ h => h) (Or.inl ⟨by rfl, ?h80⟩) (by assumption) ?_
                  case h80 => (intro w hSw; (try dsimp only at hSw); go_simp; try with_reducible rfl)
                  try simp only [Act.put, List.setIfInBounds_toArray, List.set_cons_zero, List.set_cons_succ]
                  refine wpAnyH_take (i := 30) (v := ?v81) opAt30 (by kernel_rfl) (by kernel_rfl) (by kernel_rfl) (fun _ _ _ h => h) (Or.inl ⟨by rfl, ?h81⟩) (by assumption) ?_
                  case h81 => (intro w hSw; (try dsimp only at hSw); go_simp; try with_reducible rfl)
                  try simp only [Act.put, List.setIfInBounds_toArray, List.set_cons_zero, List.set_cons_succ]
                  refine wpAnyH_done (by kernel_rfl) ?_ _
                  go_wp2_with fail
                  go_ret
                  exact ⟨by rw [hno.out]; rfl, (below_then Hr.out.bel Hr.out.bel.size HB4.out)⟩
          · obtain rfl : i = ks.length := by omega
            have hall := Ha.out
            rw [List.take_length] at hall
            have Hall := Lib.hid hall
            clear hall
            go_wp2_with fail
            go_meet
            refine ⟨Hr, ?_⟩
            have he0 : es = [] := List.eq_nil_of_length_eq_zero (by omega)
            have h3 := Hall.out
            rw [Hid, he0]
            rw [Hk0.out] at h3 ⊢
            exact may_inner_eq k0 l0 (by rw [← Hk0.out]; omega) (by rw [← Hk0.out]; omega) h3
  case rest =>
    obtain ⟨Hb1, Hm⟩ := hcut
    obtain ⟨b0, b1⟩ := Hb1.out.cells
    have hc := HcF.out wc Hb1.out
    have Hc := Lib.hid hc
    clear hc
    go_wp2_with (go_at_call 43; refine Hc.out.mono ?_; rintro e w1 ⟨p1, c1, rfl, hr1, hb1⟩; have Hr1 := Lib.hid hr1; have Hw1 := Lib.hid (below_then Hb1.out.bel Hb1.out.bel.size hb1); clear hb1 hr1)
    generalize hfe : (Sh.mk es ks).flat = fs at *
    go_loopw [5] (fun vi wr => ∃ i : Nat, vi = .int .i64 (i + 1) ∧ i ≤ fs.length ∧ Hid (rising (fs.take (i + 1)) = true) ∧ Hid (∃ q, wr = w1.drewN q)) (fun vi _ => fs.length + 1 - (intOf vi).toNat)
    case atStart =>
      refine ⟨0, rfl, by omega, ?_, ⟨0, rfl⟩⟩
      match fs with
      | [] => rfl
      | [x] => rfl
      | x :: y :: l => rfl
    case round =>
      obtain ⟨i, rfl, hi, hr, hq⟩ := hrel
      have Hbel : Hid (Below w.heap.size w wr) := by obtain ⟨q, e⟩ := hq.out; rw [e]; exact below_drewN Hw1.out q
      by_cases hlt : i + 1 < fs.length
      · obtain ⟨x, hx⟩ : ∃ x, fs[i]? = some x := ⟨_, List.getElem?_eq_getElem (by omega)⟩
        obtain ⟨y, hy⟩ : ∃ y, fs[i + 1]? = some y := ⟨_, List.getElem?_eq_getElem (by omega)⟩
        have hein := Hr1.out.ein
        have hein' : EIn wr (fun _ => True) fs p1 := by obtain ⟨q, e⟩ := hq.out; rw [e]; exact hein.drewN q
        obtain ⟨a, ql, dl, qo, do_, rfl, hSa, hcx, _⟩ := hein' i x hx
        obtain ⟨a', ql', dl', qo', do_', ha', _, hcy, _⟩ := hein' (i + 1) y hy
        injection ha' with ha'
        subst ha'
        obtain ⟨e0, _⟩ := hcx.at7
        obtain ⟨f0, _⟩ := hcy.at7
        have hstep := rising_take fs i hx hy hr.out
        have Hstep := Lib.hid hstep
        clear hcx hcy hstep hx hy hein hein'
        have hw1 : IntKind.i64.wrap (i : Int) = (i : Int) := IntWalk.i64_in _ (by omega)
        have hw4 : (i : Int) < (fs.length : Int) := by omega
        have hw2 : ((i : Int) + 1).toNat = i + 1 := by omega
        have hw3 : (i : Int) + 1 < (fs.length : Int) := by omega
        cases hk : klt x.1 y.1 with
        | true =>
          have Hk' := Lib.hid hk
          have hk2 : (!Op.bytesLess (ByteArray.toList x.1) (ByteArray.toList y.1)) = false := by have := hk; unfold klt at this; rw [this]; rfl
          go_wp2_with fail
          go_quiet (fail)
          go_wp2_with fail
          go_roundw
          case rel => exact ⟨i + 1, by go_num, by omega, (by rw [Hid, Hstep.out]; first | assumption | rfl), (by obtain ⟨q, e⟩ := hq.out; exact ⟨_, by rw [e, World.drewN_drewN]⟩)⟩
          case measure => simp [intOf]; omega
        | false =>
          have hk2 : (!Op.bytesLess (ByteArray.toList x.1) (ByteArray.toList y.1)) = true := by have := hk; unfold klt at this; rw [this]; rfl
          go_wp2_with fail
          go_quiet (fail)
          go_wp2_with fail
          go_ret
          refine ⟨?_, below_drewN Hbel.out _⟩
          have := rising_part (i := i + 2) (by rw [Hstep.out]; first | assumption | rfl)
          rw [Hm.out, this]
          rfl
      · go_wp2_with fail
        go_ret
        refine ⟨?_, Hbel.out⟩
        have := hr.out
        rw [List.take_of_length_le (by omega)] at this
        rw [Hm.out, this]
        rfl
end Go.Proofs.Ytajcmpafbcpicaa
