/- slices.Clone at four types of element: a slice of the call's own with the same cells. Condition: the cells of the source are known, and it is not longer than memory. -/
import Derived.Test.YtajcmpafbcpicaaProg
import Derived.Test.YtajcmpafbcpicaaMem
import Derived.WalkSpells
import Derived.WalkLawsBesides
set_option linter.unusedVariables false
set_option linter.unusedSimpArgs false
namespace Go.Proofs.Ytajcmpafbcpicaa
open Go.RowKit

theorem infoCv : (Try.prog.info? 42).map (fun i => (i.zero.map fun z => z.cells.size, i.size, i.bytes)) = some (some 6, 6, 88) := by kernel_rfl
theorem clonev_some (ad : Addr) (n c : Nat) (cells : List Value) (w : World) (hl : cells.length = n * 6) (hc : Cells w ad cells) (h1 : ∀ u ∈ cells, u.oneCell' = true) (hn : n * 88 ≤ 140737488355328) :
    Calls Try.prog 169 #[.slice (some ad) n c] w fun e w' => ∃ v, e = .returned v ∧ w'.ownsRow w.heap.size 42 6 v n cells ∧ Below w.heap.size w w' := by
  have q1 := fun (w : World) (a : Option Addr) (n c n' c' : Nat) => Lib.run_eql_slice_nil (P := Try.prog) w _ _ a n c n' c' Try.underlying39
  obtain ⟨i0, z0, hi, hz0, hz1, hz2, hz3⟩ := info_parts2 infoCv
  go_enter Try.func169, Try.ntmps169
  go_wp2_with (at_builtin; refine wpList_append_own _ rfl _ _ 39 rfl w.heap.size 42 i0 z0 6 88 Try.underlying39 hi hz0 hz1 hz2 hz3 (by decide) _ 0 [] rfl (World.ownsRow_made w #[] 0 (Nat.le_refl _) (by decide) rfl) ad n c cells rfl hl ?c1 h1 ?c2 ?c3 ?c4 ?_)
  case c1 =>
    intro j u hu
    exact cell_alloc _ (hc j u hu)
  case c2 => simp only [maxLen]; omega
  case c3 => omega
  case c4 => simp
  intro v w' ho hg _
  go_wp2
  go_ret
  exact ⟨v, rfl, by simpa using ho, ((Below.refl _ w).alloc (Nat.le_refl _) _).grown hg (by simp) (by simp [Value.ownBlock])⟩
theorem clonev_none (c : Nat) (w : World) :
    Calls Try.prog 169 #[.slice none 0 c] w fun e w' => ∃ v, e = .returned v ∧ w'.ownsRow w.heap.size 42 6 v 0 [] ∧ Below w.heap.size w w' := by
  have q1 := fun (w : World) (a : Option Addr) (n c n' c' : Nat) => Lib.run_eql_slice_nil (P := Try.prog) w _ _ a n c n' c' Try.underlying39
  go_enter Try.func169, Try.ntmps169
  go_wp2_with fail
  go_ret
  exact ⟨_, rfl, World.ownsRow_nil _ _ _ _, Below.refl _ _⟩
theorem clonev_any (A : Option Addr) (n c : Nat) (cells : List Value) (w : World) (hl : cells.length = n * 6) (h0 : A = none → n = 0) (hc : ∀ ad, A = some ad → Cells w ad cells) (h1 : ∀ u ∈ cells, u.oneCell' = true) (hn : n * 88 ≤ 140737488355328) :
    Calls Try.prog 169 #[.slice A n c] w fun e w' => ∃ v, e = .returned v ∧ w'.ownsRow w.heap.size 42 6 v n cells ∧ Below w.heap.size w w' := by
  cases A with
  | some ad => exact clonev_some ad n c cells w hl (hc ad rfl) h1 hn
  | none =>
    obtain rfl := h0 rfl
    have : cells = [] := List.eq_nil_of_length_eq_zero (by simpa using hl)
    subst this
    exact clonev_none c w

theorem infoCm : (Try.prog.info? 214).map (fun i => (i.zero.map fun z => z.cells.size, i.size, i.bytes)) = some (some 7, 7, 104) := by kernel_rfl
theorem clonem_some (ad : Addr) (n c : Nat) (cells : List Value) (w : World) (hl : cells.length = n * 7) (hc : Cells w ad cells) (h1 : ∀ u ∈ cells, u.oneCell' = true) (hn : n * 104 ≤ 140737488355328) :
    Calls Try.prog 170 #[.slice (some ad) n c] w fun e w' => ∃ v, e = .returned v ∧ w'.ownsRow w.heap.size 214 7 v n cells ∧ Below w.heap.size w w' := by
  have q1 := fun (w : World) (a : Option Addr) (n c n' c' : Nat) => Lib.run_eql_slice_nil (P := Try.prog) w _ _ a n c n' c' Try.underlying40
  obtain ⟨i0, z0, hi, hz0, hz1, hz2, hz3⟩ := info_parts2 infoCm
  go_enter Try.func170, Try.ntmps170
  go_wp2_with (at_builtin; refine wpList_append_own _ rfl _ _ 40 rfl w.heap.size 214 i0 z0 7 104 Try.underlying40 hi hz0 hz1 hz2 hz3 (by decide) _ 0 [] rfl (World.ownsRow_made w #[] 0 (Nat.le_refl _) (by decide) rfl) ad n c cells rfl hl ?c1 h1 ?c2 ?c3 ?c4 ?_)
  case c1 =>
    intro j u hu
    exact cell_alloc _ (hc j u hu)
  case c2 => simp only [maxLen]; omega
  case c3 => omega
  case c4 => simp
  intro v w' ho hg _
  go_wp2
  go_ret
  exact ⟨v, rfl, by simpa using ho, ((Below.refl _ w).alloc (Nat.le_refl _) _).grown hg (by simp) (by simp [Value.ownBlock])⟩
theorem clonem_none (c : Nat) (w : World) :
    Calls Try.prog 170 #[.slice none 0 c] w fun e w' => ∃ v, e = .returned v ∧ w'.ownsRow w.heap.size 214 7 v 0 [] ∧ Below w.heap.size w w' := by
  have q1 := fun (w : World) (a : Option Addr) (n c n' c' : Nat) => Lib.run_eql_slice_nil (P := Try.prog) w _ _ a n c n' c' Try.underlying40
  go_enter Try.func170, Try.ntmps170
  go_wp2_with fail
  go_ret
  exact ⟨_, rfl, World.ownsRow_nil _ _ _ _, Below.refl _ _⟩
theorem clonem_any (A : Option Addr) (n c : Nat) (cells : List Value) (w : World) (hl : cells.length = n * 7) (h0 : A = none → n = 0) (hc : ∀ ad, A = some ad → Cells w ad cells) (h1 : ∀ u ∈ cells, u.oneCell' = true) (hn : n * 104 ≤ 140737488355328) :
    Calls Try.prog 170 #[.slice A n c] w fun e w' => ∃ v, e = .returned v ∧ w'.ownsRow w.heap.size 214 7 v n cells ∧ Below w.heap.size w w' := by
  cases A with
  | some ad => exact clonem_some ad n c cells w hl (hc ad rfl) h1 hn
  | none =>
    obtain rfl := h0 rfl
    have : cells = [] := List.eq_nil_of_length_eq_zero (by simpa using hl)
    subst this
    exact clonem_none c w

theorem infoCn : (Try.prog.info? 30).map (fun i => (i.zero.map fun z => z.cells.size, i.size, i.bytes)) = some (some 1, 1, 8) := by kernel_rfl
theorem clonen_some (ad : Addr) (n c : Nat) (cells : List Value) (w : World) (hl : cells.length = n * 1) (hc : Cells w ad cells) (h1 : ∀ u ∈ cells, u.oneCell' = true) (hn : n * 8 ≤ 140737488355328) :
    Calls Try.prog 103 #[.slice (some ad) n c] w fun e w' => ∃ v, e = .returned v ∧ w'.ownsRow w.heap.size 30 1 v n cells ∧ Below w.heap.size w w' := by
  have q1 := fun (w : World) (a : Option Addr) (n c n' c' : Nat) => Lib.run_eql_slice_nil (P := Try.prog) w _ _ a n c n' c' Try.underlying24
  obtain ⟨i0, z0, hi, hz0, hz1, hz2, hz3⟩ := info_parts2 infoCn
  go_enter Try.func103, Try.ntmps103
  go_wp2_with (at_builtin; refine wpList_append_own _ rfl _ _ 24 rfl w.heap.size 30 i0 z0 1 8 Try.underlying24 hi hz0 hz1 hz2 hz3 (by decide) _ 0 [] rfl (World.ownsRow_made w #[] 0 (Nat.le_refl _) (by decide) rfl) ad n c cells rfl hl ?c1 h1 ?c2 ?c3 ?c4 ?_)
  case c1 =>
    intro j u hu
    exact cell_alloc _ (hc j u hu)
  case c2 => simp only [maxLen]; omega
  case c3 => omega
  case c4 => simp
  intro v w' ho hg _
  go_wp2
  go_ret
  exact ⟨v, rfl, by simpa using ho, ((Below.refl _ w).alloc (Nat.le_refl _) _).grown hg (by simp) (by simp [Value.ownBlock])⟩
theorem clonen_none (c : Nat) (w : World) :
    Calls Try.prog 103 #[.slice none 0 c] w fun e w' => ∃ v, e = .returned v ∧ w'.ownsRow w.heap.size 30 1 v 0 [] ∧ Below w.heap.size w w' := by
  have q1 := fun (w : World) (a : Option Addr) (n c n' c' : Nat) => Lib.run_eql_slice_nil (P := Try.prog) w _ _ a n c n' c' Try.underlying24
  go_enter Try.func103, Try.ntmps103
  go_wp2_with fail
  go_ret
  exact ⟨_, rfl, World.ownsRow_nil _ _ _ _, Below.refl _ _⟩
theorem clonen_any (A : Option Addr) (n c : Nat) (cells : List Value) (w : World) (hl : cells.length = n * 1) (h0 : A = none → n = 0) (hc : ∀ ad, A = some ad → Cells w ad cells) (h1 : ∀ u ∈ cells, u.oneCell' = true) (hn : n * 8 ≤ 140737488355328) :
    Calls Try.prog 103 #[.slice A n c] w fun e w' => ∃ v, e = .returned v ∧ w'.ownsRow w.heap.size 30 1 v n cells ∧ Below w.heap.size w w' := by
  cases A with
  | some ad => exact clonen_some ad n c cells w hl (hc ad rfl) h1 hn
  | none =>
    obtain rfl := h0 rfl
    have : cells = [] := List.eq_nil_of_length_eq_zero (by simpa using hl)
    subst this
    exact clonen_none c w

theorem infoCt : (Try.prog.info? 61).map (fun i => (i.zero.map fun z => z.cells.size, i.size, i.bytes)) = some (some 1, 1, 16) := by kernel_rfl
theorem clonet_some (ad : Addr) (n c : Nat) (cells : List Value) (w : World) (hl : cells.length = n * 1) (hc : Cells w ad cells) (h1 : ∀ u ∈ cells, u.oneCell' = true) (hn : n * 16 ≤ 140737488355328) :
    Calls Try.prog 123 #[.slice (some ad) n c] w fun e w' => ∃ v, e = .returned v ∧ w'.ownsRow w.heap.size 61 1 v n cells ∧ Below w.heap.size w w' := by
  have q1 := fun (w : World) (a : Option Addr) (n c n' c' : Nat) => Lib.run_eql_slice_nil (P := Try.prog) w _ _ a n c n' c' Try.underlying70
  obtain ⟨i0, z0, hi, hz0, hz1, hz2, hz3⟩ := info_parts2 infoCt
  go_enter Try.func123, Try.ntmps123
  go_wp2_with (at_builtin; refine wpList_append_own _ rfl _ _ 70 rfl w.heap.size 61 i0 z0 1 16 Try.underlying70 hi hz0 hz1 hz2 hz3 (by decide) _ 0 [] rfl (World.ownsRow_made w #[] 0 (Nat.le_refl _) (by decide) rfl) ad n c cells rfl hl ?c1 h1 ?c2 ?c3 ?c4 ?_)
  case c1 =>
    intro j u hu
    exact cell_alloc _ (hc j u hu)
  case c2 => simp only [maxLen]; omega
  case c3 => omega
  case c4 => simp
  intro v w' ho hg _
  go_wp2
  go_ret
  exact ⟨v, rfl, by simpa using ho, ((Below.refl _ w).alloc (Nat.le_refl _) _).grown hg (by simp) (by simp [Value.ownBlock])⟩
theorem clonet_none (c : Nat) (w : World) :
    Calls Try.prog 123 #[.slice none 0 c] w fun e w' => ∃ v, e = .returned v ∧ w'.ownsRow w.heap.size 61 1 v 0 [] ∧ Below w.heap.size w w' := by
  have q1 := fun (w : World) (a : Option Addr) (n c n' c' : Nat) => Lib.run_eql_slice_nil (P := Try.prog) w _ _ a n c n' c' Try.underlying70
  go_enter Try.func123, Try.ntmps123
  go_wp2_with fail
  go_ret
  exact ⟨_, rfl, World.ownsRow_nil _ _ _ _, Below.refl _ _⟩
theorem clonet_any (A : Option Addr) (n c : Nat) (cells : List Value) (w : World) (hl : cells.length = n * 1) (h0 : A = none → n = 0) (hc : ∀ ad, A = some ad → Cells w ad cells) (h1 : ∀ u ∈ cells, u.oneCell' = true) (hn : n * 16 ≤ 140737488355328) :
    Calls Try.prog 123 #[.slice A n c] w fun e w' => ∃ v, e = .returned v ∧ w'.ownsRow w.heap.size 61 1 v n cells ∧ Below w.heap.size w w' := by
  cases A with
  | some ad => exact clonet_some ad n c cells w hl (hc ad rfl) h1 hn
  | none =>
    obtain rfl := h0 rfl
    have : cells = [] := List.eq_nil_of_length_eq_zero (by simpa using hl)
    subst this
    exact clonet_none c w
end Go.Proofs.Ytajcmpafbcpicaa
