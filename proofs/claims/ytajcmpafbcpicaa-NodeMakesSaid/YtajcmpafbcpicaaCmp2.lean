/- The document's Compare of two values. Conditions: both lie in memory and fit. -/
import Derived.Test.YtajcmpafbcpicaaCmp1
import Derived.Test.YtajcmpafbcpicaaCopy
import Derived.Deep.RegionHeld3
set_option linter.unusedVariables false
set_option linter.unusedSimpArgs false
namespace Go.Proofs.Ytajcmpafbcpicaa
open Go.RowKit

def IntB (n : Int) (w : World) (e : Ending) (w' : World) : Prop := e = .returned (.int .i64 n) ∧ Below w.heap.size w w'
abbrev vagg (k : Int) (b : Bool) (n : Int) (t : Key) (pl : Option Addr) (ll cl : Nat) (po : Option Addr) (ol co : Nat) : Array Value := #[.int .i64 k, .bool b, .int .i64 n, .string t, .slice pl ll cl, .slice po ol co]
/-- Two values in two boxes. -/
structure Two (w : World) (cs ds : Array Value) (wr : World) : Prop where
  bx : Blk wr w.heap.size 42 cs
  by_ : Blk wr (w.heap.size + 1) 42 ds
  bel : Below w.heap.size w wr
theorem Two.new (w : World) (cs ds : Array Value) : Two w cs ds ((w.alloc (.cells cs 42)).alloc (.cells ds 42)) := by
  refine ⟨(Blk.new w 42 cs).alloc _, ?_, ((Below.refl _ w).alloc (Nat.le_refl _) _).alloc (by simp) _⟩
  have := Blk.new (w.alloc (.cells cs 42)) 42 ds
  rwa [World.size_alloc] at this
theorem Two.under {w wr w1 : World} {cs ds : Array Value} (h : Two w cs ds wr) (hb : Below wr.heap.size wr w1) : Two w cs ds w1 := ⟨h.bx.under hb, h.by_.under hb, below_then h.bel h.bel.size hb⟩
theorem Two.drewN {w wr : World} {cs ds : Array Value} (h : Two w cs ds wr) (q : Nat) : Two w cs ds (wr.drewN q) := h.under ⟨rfl, rfl, rfl, Nat.le_refl _, fun _ _ => rfl⟩

theorem cmpL_drop {l l' : List V} {i : Nat} {x y : V} (hx : l[i]? = some x) (hy : l'[i]? = some y) : cmpL (l.drop i) (l'.drop i) = if x.cmp y ≠ 0 then x.cmp y else cmpL (l.drop (i + 1)) (l'.drop (i + 1)) := by
  obtain ⟨h1, e1⟩ := List.getElem?_eq_some_iff.1 hx
  obtain ⟨h2, e2⟩ := List.getElem?_eq_some_iff.1 hy
  rw [List.drop_eq_getElem_cons h1, List.drop_eq_getElem_cons h2, e1, e2]
  simp only [cmpL]
theorem cmpL_stop {l l' : List V} {i : Nat} (h : i ≤ l.length) (h' : i ≤ l'.length) (he : ¬ (i < l.length ∧ i < l'.length)) : cmpL (l.drop i) (l'.drop i) = cmpI (l.length : Int) (l'.length : Int) := by
  rcases Nat.lt_or_ge i l.length with h1 | h1
  · have h2 : i = l'.length := by omega
    rw [show l'.drop i = [] by rw [h2]; exact List.drop_length, List.drop_eq_getElem_cons h1]
    simp only [cmpL]
    unfold cmpI
    rw [if_neg (by omega), if_pos (by omega)]
  · obtain rfl : i = l.length := by omega
    rw [List.drop_length]
    rcases Nat.lt_or_ge l.length l'.length with h2 | h2
    · rw [List.drop_eq_getElem_cons h2]
      simp only [cmpL]
      unfold cmpI
      rw [if_pos (by omega)]
    · have h3 : l.length = l'.length := by omega
      rw [h3, List.drop_length]
      simp only [cmpL]
      exact (cmpI_self _).symm
theorem cmpO_drop {l l' : List (Key × V)} {i : Nat} {x y : Key × V} (hx : l[i]? = some x) (hy : l'[i]? = some y) :
    cmpO (l.drop i) (l'.drop i) = if cmpT x.1 y.1 ≠ 0 then cmpT x.1 y.1 else if x.2.cmp y.2 ≠ 0 then x.2.cmp y.2 else cmpO (l.drop (i + 1)) (l'.drop (i + 1)) := by
  obtain ⟨h1, e1⟩ := List.getElem?_eq_some_iff.1 hx
  obtain ⟨h2, e2⟩ := List.getElem?_eq_some_iff.1 hy
  rw [List.drop_eq_getElem_cons h1, List.drop_eq_getElem_cons h2, e1, e2]
  obtain ⟨k, v⟩ := x
  obtain ⟨j, u⟩ := y
  simp only [cmpO]
theorem cmpO_stop {l l' : List (Key × V)} {i : Nat} (h : i ≤ l.length) (h' : i ≤ l'.length) (he : ¬ (i < l.length ∧ i < l'.length)) : cmpO (l.drop i) (l'.drop i) = cmpI (l.length : Int) (l'.length : Int) := by
  rcases Nat.lt_or_ge i l.length with h1 | h1
  · have h2 : i = l'.length := by omega
    rw [show l'.drop i = [] by rw [h2]; exact List.drop_length, List.drop_eq_getElem_cons h1]
    simp only [cmpO]
    unfold cmpI
    rw [if_neg (by omega), if_pos (by omega)]
  · obtain rfl : i = l.length := by omega
    rw [List.drop_length]
    rcases Nat.lt_or_ge l.length l'.length with h2 | h2
    · rw [List.drop_eq_getElem_cons h2]
      simp only [cmpO]
      unfold cmpI
      rw [if_pos (by omega)]
    · have h3 : l.length = l'.length := by omega
      rw [h3, List.drop_length]
      simp only [cmpO]
      exact (cmpI_self _).symm

section
variable (k k' : Int) (b b' : Bool) (n n' : Int) (t t' : Key) (pl po ql qo : Option Addr) (ll cl ol co ll' dl ol' dO : Nat) (w : World)
theorem cmp_kind (h : k ≠ k') : Calls Try.prog 111 #[.agg (vagg k b n t pl ll cl po ol co), .agg (vagg k' b' n' t' ql ll' dl qo ol' dO)] w (IntB (cmpI k k') w) := by
  have h1 : (k != k') = true := by simpa using h
  have HB := Lib.hid (Two.new w (vagg k b n t pl ll cl po ol co) (vagg k' b' n' t' ql ll' dl qo ol' dO))
  go_enter Try.func111, Try.ntmps111
  go_wp2_with (go_at_call 151; refine (numbers_any _ _ _).mono ?_; rintro e w1 ⟨rfl, rfl⟩)
  go_ret
  exact ⟨rfl, HB.out.bel⟩
theorem cmp_bool : Calls Try.prog 111 #[.agg (vagg 2 b n t pl ll cl po ol co), .agg (vagg 2 b' n' t' ql ll' dl qo ol' dO)] w (IntB (tr b - tr b') w) := by
  have HB := Lib.hid (Two.new w (vagg 2 b n t pl ll cl po ol co) (vagg 2 b' n' t' ql ll' dl qo ol' dO))
  cases b <;> cases b' <;>
    (go_enter Try.func111, Try.ntmps111
     go_wp2_with fail
     go_ret
     exact ⟨rfl, HB.out.bel⟩)
theorem cmp_int : Calls Try.prog 111 #[.agg (vagg 3 b n t pl ll cl po ol co), .agg (vagg 3 b' n' t' ql ll' dl qo ol' dO)] w (IntB (cmpI n n') w) := by
  have HB := Lib.hid (Two.new w (vagg 3 b n t pl ll cl po ol co) (vagg 3 b' n' t' ql ll' dl qo ol' dO))
  go_enter Try.func111, Try.ntmps111
  go_wp2_with (go_at_call 151; refine (numbers_any _ _ _).mono ?_; rintro e w1 ⟨rfl, rfl⟩)
  go_ret
  exact ⟨rfl, HB.out.bel⟩
theorem cmp_text (ht : t.size ≤ 140737488355328) (ht' : t'.size ≤ 140737488355328) :
    Calls Try.prog 111 #[.agg (vagg 4 b n t pl ll cl po ol co), .agg (vagg 4 b' n' t' ql ll' dl qo ol' dO)] w (IntB (cmpT t t') w) := by
  have HB := Lib.hid (Two.new w (vagg 4 b n t pl ll cl po ol co) (vagg 4 b' n' t' ql ll' dl qo ol' dO))
  have Hc := Lib.hid (texts_any t t' ht ht')
  go_enter Try.func111, Try.ntmps111
  go_wp2_with (go_at_call 152; refine (Hc.out _).mono ?_; rintro e w1 ⟨rfl, q, rfl⟩)
  go_ret
  exact ⟨rfl, (HB.out.drewN q).bel⟩
theorem cmp_other (h2 : k ≠ 2) (h3 : k ≠ 3) (h4 : k ≠ 4) (h5 : k ≠ 5) (h6 : k ≠ 6) :
    Calls Try.prog 111 #[.agg (vagg k b n t pl ll cl po ol co), .agg (vagg k b' n' t' ql ll' dl qo ol' dO)] w (IntB 0 w) := by
  have e0 : (k != k) = false := by simp
  have e2 : (k == 2) = false := by simpa using h2
  have e3 : (k == 3) = false := by simpa using h3
  have e4 : (k == 4) = false := by simpa using h4
  have e5 : (k == 5) = false := by simpa using h5
  have e6 : (k == 6) = false := by simpa using h6
  clear h2 h3 h4 h5 h6
  have HB := Lib.hid (Two.new w (vagg k b n t pl ll cl po ol co) (vagg k b' n' t' ql ll' dl qo ol' dO))
  go_enter Try.func111, Try.ntmps111
  go_wp2_with fail
  go_ret
  exact ⟨rfl, HB.out.bel⟩
end
end Go.Proofs.Ytajcmpafbcpicaa
