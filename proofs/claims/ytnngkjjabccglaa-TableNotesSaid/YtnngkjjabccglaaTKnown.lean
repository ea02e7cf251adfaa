/- The walk of commonplacelaw20.known: it answers true. No conditions. -/
import Derived.Test.YtnngkjjabccglaaTForget2
set_option linter.unusedVariables false
set_option linter.unusedSimpArgs false
namespace Go.Proofs.Ytnngkjjabccglaa
open Go.RowKit

abbrev tp (g : Nat) : Value := .pointer (some ⟨g, 0, none⟩)
def TabE (w : World) (B g N : Nat) (T : Tab) : Prop := ∃ m1 m2 row, TabIn w B g N T m1 m2 row
theorem TabE.under {w w' : World} {B g N : Nat} {T : Tab} (h : TabE w B g N T) (hb : Below w.heap.size w w') : TabE w' B g N T := by
  obtain ⟨m1, m2, row, h⟩ := h
  exact ⟨m1, m2, row, h.under hb⟩
def tab0 : Tab := ⟨[], [], 0, 0⟩
theorem tab0_in {w : World} {B g : Nat} (h : Blk w g 29 #[.map none, .map none, .int .u64 0, .int .u64 0]) (hB : B ≤ g) : TabE w B g 0 tab0 :=
  ⟨none, none, fun _ => .slice none 0 0, h, hB, (fun b e => by cases e), (fun b e => by cases e), (fun _ => ⟨rfl, rfl, rfl⟩), (fun _ => rfl), (fun b e => by cases e), (fun c l e => by simp [tab0, lookU] at e), (fun c d l k e => by simp [tab0, lookU] at e), (by simp [tab0]), (by simp [tab0]), ⟨by decide, by decide, by decide⟩, (fun c l e => by simp [tab0, lookU] at e)⟩
theorem lastOf_lt {w : World} {B g N : Nat} {T : Tab} (h : TabE w B g N T) (c : Nat) : T.last c < 9223372036854775808 := by
  obtain ⟨m1, m2, row, h⟩ := h
  unfold Tab.last lastOf
  cases hl : (T.of c).getLast? with
  | none => simp
  | some x => exact ((rowV_own h c).2.2.2 x (List.mem_of_getLast? hl)).2
theorem note_ok {w : World} {B g N : Nat} {T : Tab} (h : TabE w B g N T) (hB : B ≤ w.heap.size) (hN : N < 1000000) (c v i : Nat) (hc : T.code c v i = 0) :
    Calls Try.prog 6 #[tp g, u64v c, u64v v, u64v i] w fun e w' => e = .returned (.int .i64 0) ∧ TabE w' B g (N + 1) (T.put c v i) ∧ Below B w w' ∧ OffT w w' := by
  have hl := lastOf_lt h c
  obtain ⟨m1, m2, row, h⟩ := h
  exact tnote_ok h hB hN c v i hl hc
theorem note_no {w : World} {B g N : Nat} {T : Tab} (h : TabE w B g N T) (c v i : Nat) (hc : T.code c v i ≠ 0) :
    Calls Try.prog 6 #[tp g, u64v c, u64v v, u64v i] w fun e w' => e = .returned (.int .i64 (T.code c v i : Nat)) ∧ w = w' := by
  have hl := lastOf_lt h c
  obtain ⟨m1, m2, row, h⟩ := h
  exact tnote_no h c v i hl hc
theorem at_E {w : World} {B g N : Nat} {T : Tab} (h : TabE w B g N T) (c v : Nat) : Calls Try.prog 14 #[tp g, u64v c, u64v v] w (AtPost (T.at_ c v).1 (T.at_ c v).2 w) := by
  obtain ⟨m1, m2, row, h⟩ := h
  exact tat_any h c v
theorem who_E {w : World} {B g N : Nat} {T : Tab} (h : TabE w B g N T) (v : Nat) : Calls Try.prog 11 #[tp g, u64v v] w (WhoPost (T.whoOf v) w) := by
  obtain ⟨m1, m2, row, h⟩ := h
  exact twho_any h v
theorem last_E {w : World} {B g N : Nat} {T : Tab} (h : TabE w B g N T) (c : Nat) : Calls Try.prog 12 #[tp g, u64v c] w fun e w' => e = .returned (u64v (T.last c)) ∧ w = w' := by
  obtain ⟨m1, m2, row, h⟩ := h
  exact tlast_any h c
theorem newest_E {w : World} {B g N : Nat} {T : Tab} (h : TabE w B g N T) : Calls Try.prog 15 #[tp g] w fun e w' => e = .returned (u64v T.newest) ∧ w = w' := by
  obtain ⟨m1, m2, row, h⟩ := h
  exact tnewest_any h
theorem forget_E {w : World} {B g N v : Nat} {T : Tab} (h : TabE w B g N T) (hB : B ≤ w.heap.size) (hn : T.notes ≠ []) (hv : T.floor < v) (hv2 : v < 9223372036854775808) :
    Calls Try.prog 13 #[tp g, u64v v] w fun e w' => e = .returned (.tuple #[]) ∧ TabE w' B g N (T.forget v) ∧ Below B w w' := by
  obtain ⟨m1, m2, row, h⟩ := h
  cases m1 with
  | none => exact absurd (h.z1 rfl).1 hn
  | some b1 =>
    cases m2 with
    | none => exact absurd (h.z2 rfl) (by simp)
    | some b2 =>
      refine (tforget_any h hB hv hv2).mono ?_
      rintro e w' ⟨rfl, ⟨row', h1⟩, h2⟩
      exact ⟨rfl, ⟨_, _, row', h1⟩, h2⟩

abbrev kT1 : Tab := ⟨[(7, [(3, 1)])], [(3, 7)], 0, 3⟩
abbrev kT2 : Tab := ⟨[(7, [(3, 1)]), (8, [(4, 1)])], [(3, 7), (4, 8)], 0, 4⟩
abbrev kT3 : Tab := ⟨[(7, [(3, 1), (5, 2)]), (8, [(4, 1)])], [(3, 7), (4, 8), (5, 7)], 0, 5⟩
abbrev kT4 : Tab := ⟨[(7, [(5, 2)]), (8, [(4, 1)])], [(5, 7)], 5, 5⟩
set_option maxRecDepth 100000 in
set_option maxHeartbeats 4000000 in
theorem tknown_any (w : World) : Calls Try.prog 9 #[] w fun e w' => e = .returned (.bool true) ∧ Below w.heap.size w w' := by
  have H0 := Lib.hid (tab0_in (Blk.new w 29 #[.map none, .map none, .int .u64 0, .int .u64 0]) (Nat.le_refl w.heap.size))
  have Hb0 := Lib.hid (bel_new w (.cells #[.map none, .map none, .int .u64 0, .int .u64 0] 29))
  have HB := Lib.hid (Nat.le_refl w.heap.size)
  go_enter Try.func9, Try.ntmps9
  go_upto_region 3 with (go_at_call 6; refine (note_ok H0.out Hb0.out.size (by decide) 7 3 1 (by decide)).mono ?_; rintro e w1 ⟨rfl, h1, hb1, -⟩; have H1 : Hid (TabE w1 w.heap.size w.heap.size 1 kT1) := Lib.hid h1; have Hb1 := Lib.hid (below_two Hb0.out hb1); clear h1 hb1)
  go_upto_region 4 with (go_at_call 6; refine (note_ok H1.out Hb1.out.size (by decide) 8 4 1 (by decide)).mono ?_; rintro e w2 ⟨rfl, h2, hb2, -⟩; have H2 : Hid (TabE w2 w.heap.size w.heap.size 2 kT2) := Lib.hid h2; have Hb2 := Lib.hid (below_two Hb1.out hb2); clear h2 hb2)
  go_upto_region 5 with (go_at_call 6; refine (note_ok H2.out Hb2.out.size (by decide) 7 5 2 (by decide)).mono ?_; rintro e w3 ⟨rfl, h3, hb3, -⟩; have H3 : Hid (TabE w3 w.heap.size w.heap.size 3 kT3) := Lib.hid h3; have Hb3 := Lib.hid (below_two Hb2.out hb3); clear h3 hb3)
  have a1 : kT3.at_ 7 4 = (1, true) := by decide
  have a2 : kT3.at_ 8 3 = (0, true) := by decide
  have a3 : kT3.whoOf 5 = (7, 2, true) := by decide
  have A1 := at_E H3.out 7 4
  rw [a1] at A1
  have HA1 := Lib.hid A1
  clear A1 a1
  go_upto_region 6 with (go_at_call 14; refine HA1.out.mono ?_; rintro e w4 ⟨rfl, hb4⟩; have H4 := Lib.hid (H3.out.under hb4); have Hb4 := Lib.hid (bel_tr Hb3.out hb4); clear hb4)
  have A2 := at_E H4.out 8 3
  rw [a2] at A2
  have HA2 := Lib.hid A2
  clear A2 a2
  go_upto_region 7 with (go_at_call 14; refine HA2.out.mono ?_; rintro e w5 ⟨rfl, hb5⟩; have H5 := Lib.hid (H4.out.under hb5); have Hb5 := Lib.hid (bel_tr Hb4.out hb5); clear hb5)
  have A3 := who_E H5.out 5
  rw [a3] at A3
  have HA3 := Lib.hid A3
  clear A3 a3
  go_upto_region 11 with (first
    | (go_at_call 11; refine HA3.out.mono ?_; rintro e w6 ⟨rfl, hb6⟩; have H6 := Lib.hid (H5.out.under hb6); have Hb6 := Lib.hid (bel_tr Hb5.out hb6); clear hb6)
    | (go_at_call 13; refine (forget_E (v := 5) H6.out Hb6.out.size (by simp) (by decide) (by decide)).mono ?_; rintro e w7 ⟨rfl, h7, hb7⟩; have H7 : Hid (TabE w7 w.heap.size w.heap.size 3 kT4) := Lib.hid h7; have Hb7 := Lib.hid (below_two Hb6.out hb7); clear h7 hb7))
  have a4 : kT4.at_ 7 4 = (0, false) := by decide
  have a5 : kT4.at_ 7 5 = (2, true) := by decide
  have a6 : kT4.whoOf 4 = (0, 0, false) := by decide
  have A4 := at_E H7.out 7 4
  rw [a4] at A4
  have HA4 := Lib.hid A4
  clear A4 a4
  go_upto_region 12 with (go_at_call 14; refine HA4.out.mono ?_; rintro e w8 ⟨rfl, hb8⟩; have H8 := Lib.hid (H7.out.under hb8); have Hb8 := Lib.hid (bel_tr Hb7.out hb8); clear hb8)
  have A5 := at_E H8.out 7 5
  rw [a5] at A5
  have HA5 := Lib.hid A5
  clear A5 a5
  go_upto_region 13 with (go_at_call 14; refine HA5.out.mono ?_; rintro e w9 ⟨rfl, hb9⟩; have H9 := Lib.hid (H8.out.under hb9); have Hb9 := Lib.hid (bel_tr Hb8.out hb9); clear hb9)
  have A6 := who_E H9.out 4
  rw [a6] at A6
  have HA6 := Lib.hid A6
  clear A6 a6
  go_wp2_with (go_at_call 11; refine HA6.out.mono ?_; rintro e wA ⟨rfl, hbA⟩; have HbA := Lib.hid (bel_tr Hb9.out hbA); clear hbA)
  go_ret
  exact ⟨rfl, HbA.out⟩
end Go.Proofs.Ytnngkjjabccglaa
