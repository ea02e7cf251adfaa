/- (*Table).Note. Conditions: a table in memory. -/
import Derived.Test.YtnngkjjabccglaaTTab2
import Derived.Test.YtnngkjjabccglaaTRegOwn
import Derived.Maps.AppendAt
import Derived.Deep.RegionLaw
import Derived.Deep.DeepCutAuto
set_option linter.unusedVariables false
set_option linter.unusedSimpArgs false
namespace Go.Proofs.Ytnngkjjabccglaa
open Go.RowKit

def mayN (n : Nat) : Bool := decide (0 < n) && decide (n ≤ 4611686018427387903)
theorem tmay_any (n : Nat) (w : World) : Calls Try.prog 18 #[u64v n] w fun e w' => e = .returned (.bool (mayN n)) ∧ w = w' := by
  by_cases h0 : 0 < n
  · have d1 : decide ((0 : Int) < (n : Int)) = true := decide_eq_true (by omega)
    by_cases h1 : n ≤ 4611686018427387903
    · have d2 : decide ((n : Int) ≤ 4611686018427387903) = true := decide_eq_true (by omega)
      have e : mayN n = true := by simp [mayN, h0, h1]
      rw [e]
      clear e
      go_enter Try.func18, Try.ntmps18
      go_wp2_with fail
      go_ret
      exact ⟨rfl, rfl⟩
    · have d2 : decide ((n : Int) ≤ 4611686018427387903) = false := decide_eq_false (by omega)
      have e : mayN n = false := by simp [mayN, h1]
      rw [e]
      clear e
      go_enter Try.func18, Try.ntmps18
      go_wp2_with fail
      go_ret
      exact ⟨rfl, rfl⟩
  · obtain rfl : n = 0 := by omega
    go_enter Try.func18, Try.ntmps18
    go_wp2_with fail
    go_ret
    exact ⟨rfl, rfl⟩
/-- Why a note may not be. -/
def Tab.code (T : Tab) (c v i : Nat) : Nat :=
  if mayN c = false then 2 else if mayN v = false ∨ mayN i = false then 7 else if v ≤ T.newest ∨ i ≤ T.last c then 15 else if T.last c + 1 < i then 14 else 0
theorem tnote_nil (c v i : Nat) (w : World) : Calls Try.prog 6 #[.pointer none, u64v c, u64v v, u64v i] w fun e w' => e = .returned (.int .i64 1) ∧ w = w' := by
  go_enter Try.func6, Try.ntmps6
  go_wp2_with (go_at_call 12; refine (tlast_nil c w).mono ?_; rintro e w1 ⟨rfl, rfl⟩)
  go_ret
  exact ⟨rfl, rfl⟩
set_option maxRecDepth 100000 in
theorem tnote_no {w : World} {B g N : Nat} {T : Tab} {m1 m2 : Option Nat} {row : Nat → Value} (h : TabIn w B g N T m1 m2 row) (c v i : Nat) (hl : T.last c < 9223372036854775808) (hc : T.code c v i ≠ 0) :
    Calls Try.prog 6 #[.pointer (some ⟨g, 0, none⟩), u64v c, u64v v, u64v i] w fun e w' => e = .returned (.int .i64 (T.code c v i : Nat)) ∧ w = w' := by
  have Hl := Lib.hid (tlast_any h c)
  have c3 := h.blk.cell 3
  simp at c3
  have hnn := h.nums
  cases h1 : mayN c with
  | false =>
    have e : T.code c v i = 2 := by simp [Tab.code, h1]
    rw [e]
    clear e hc
    have Hm := Lib.hid (tmay_any c w)
    rw [h1] at Hm
    clear h1
    go_enter Try.func6, Try.ntmps6
    go_wp2_with (first
      | (go_at_call 12; refine Hl.out.mono ?_; rintro e w1 ⟨rfl, rfl⟩)
      | (go_at_call 18; refine Hm.out.mono ?_; rintro e w1 ⟨rfl, rfl⟩))
    go_ret
    exact ⟨rfl, rfl⟩
  | true =>
    have Hm1 := Lib.hid (tmay_any c w)
    rw [h1] at Hm1
    cases h2 : mayN v with
    | false =>
      have e : T.code c v i = 7 := by simp [Tab.code, h1, h2]
      rw [e]
      clear e hc
      have Hm2 := Lib.hid (tmay_any v w)
      rw [h2] at Hm2
      clear h1 h2
      go_enter Try.func6, Try.ntmps6
      go_upto_region 6 with (first
        | (go_at_call 12; refine Hl.out.mono ?_; rintro e w1 ⟨rfl, rfl⟩)
        | (go_at_call 18; refine Hm1.out.mono ?_; rintro e w1 ⟨rfl, rfl⟩))
      go_wp2_with (go_at_call 18; refine Hm2.out.mono ?_; rintro e w1 ⟨rfl, rfl⟩)
      go_ret
      exact ⟨rfl, rfl⟩
    | true =>
      have Hm2 := Lib.hid (tmay_any v w)
      rw [h2] at Hm2
      cases h3 : mayN i with
      | false =>
        have e : T.code c v i = 7 := by simp [Tab.code, h1, h2, h3]
        rw [e]
        clear e hc
        have Hm3 := Lib.hid (tmay_any i w)
        rw [h3] at Hm3
        clear h1 h2 h3
        go_enter Try.func6, Try.ntmps6
        go_upto_region 6 with (first
          | (go_at_call 12; refine Hl.out.mono ?_; rintro e w1 ⟨rfl, rfl⟩)
          | (go_at_call 18; refine Hm1.out.mono ?_; rintro e w1 ⟨rfl, rfl⟩))
        go_wp2_with fail
        refine Hm2.out.mono ?_
        rintro e w1 ⟨rfl, rfl⟩
        go_wp2_with fail
        refine Hm3.out.mono ?_
        rintro e w1 ⟨rfl, rfl⟩
        go_wp2_with fail
        go_ret
        exact ⟨rfl, rfl⟩
      | true =>
        have Hm3 := Lib.hid (tmay_any i w)
        rw [h3] at Hm3
        by_cases h4 : v ≤ T.newest
        · have e : T.code c v i = 15 := by simp [Tab.code, h1, h2, h3, h4]
          rw [e]
          have d1 : decide (v ≤ T.newest) = true := decide_eq_true h4
          clear e hc h1 h2 h3 h4
          go_enter Try.func6, Try.ntmps6
          go_upto_region 6 with (first
            | (go_at_call 12; refine Hl.out.mono ?_; rintro e w1 ⟨rfl, rfl⟩)
            | (go_at_call 18; refine Hm1.out.mono ?_; rintro e w1 ⟨rfl, rfl⟩))
          go_wp2_with fail
          refine Hm2.out.mono ?_
          rintro e w1 ⟨rfl, rfl⟩
          go_wp2_with fail
          refine Hm3.out.mono ?_
          rintro e w1 ⟨rfl, rfl⟩
          go_wp2_with fail
          go_ret
          exact ⟨rfl, rfl⟩
        · have d1 : decide (v ≤ T.newest) = false := decide_eq_false h4
          by_cases h5 : i ≤ T.last c
          · have e : T.code c v i = 15 := by simp [Tab.code, h1, h2, h3, h5]
            rw [e]
            have d2 : decide (i ≤ T.last c) = true := decide_eq_true h5
            clear e hc h1 h2 h3 h4 h5
            go_enter Try.func6, Try.ntmps6
            go_upto_region 6 with (first
              | (go_at_call 12; refine Hl.out.mono ?_; rintro e w1 ⟨rfl, rfl⟩)
              | (go_at_call 18; refine Hm1.out.mono ?_; rintro e w1 ⟨rfl, rfl⟩))
            go_wp2_with fail
            refine Hm2.out.mono ?_
            rintro e w1 ⟨rfl, rfl⟩
            go_wp2_with fail
            refine Hm3.out.mono ?_
            rintro e w1 ⟨rfl, rfl⟩
            go_wp2_with fail
            go_ret
            exact ⟨rfl, rfl⟩
          · have d2 : decide (i ≤ T.last c) = false := decide_eq_false h5
            have h6 : T.last c + 1 < i := by
              refine Classical.byContradiction fun h6 => hc ?_
              simp [Tab.code, h1, h2, h3, h4, h5, h6]
            have e : T.code c v i = 14 := by simp [Tab.code, h1, h2, h3, h4, h5, h6]
            rw [e]
            have h7 : (T.last c : Int) + 1 < (i : Int) := by omega
            have hi : (i : Int) ≤ 4611686018427387903 := by simp [mayN] at h3; omega
            clear e hc h1 h2 h3 h4 h5 h6
            go_enter Try.func6, Try.ntmps6
            go_upto_region 6 with (first
              | (go_at_call 12; refine Hl.out.mono ?_; rintro e w1 ⟨rfl, rfl⟩)
              | (go_at_call 18; refine Hm1.out.mono ?_; rintro e w1 ⟨rfl, rfl⟩))
            go_wp2_with fail
            refine Hm2.out.mono ?_
            rintro e w1 ⟨rfl, rfl⟩
            go_wp2_with fail
            refine Hm3.out.mono ?_
            rintro e w1 ⟨rfl, rfl⟩
            go_wp2_with fail
            go_ret
            exact ⟨rfl, rfl⟩
end Go.Proofs.Ytnngkjjabccglaa
