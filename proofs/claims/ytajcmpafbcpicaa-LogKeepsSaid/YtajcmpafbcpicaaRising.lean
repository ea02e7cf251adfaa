/- node.rising of entries by their keys. Condition: the entries lie in memory. -/
import Derived.Test.YtajcmpafbcpicaaProg
import Derived.Test.YtajcmpafbcpicaaNodeMem
import Derived.WalkSpells
import Derived.WalkLawsBesides
import Derived.Deep.QuietTactic
import Derived.BigQuiet
import Derived.Deep.RegionWith
import Derived.Outline
import Derived.Test.YtajcmpafbcpicaaCopy
set_option linter.unusedVariables false
set_option linter.unusedSimpArgs false
namespace Go.Proofs.Ytajcmpafbcpicaa
open Go.RowKit

theorem leaf1_any (k1 k2 : Key) (c1 c2 c3 c4 c5 c6 d1 d2 d3 d4 d5 d6 : Value) (w : World) :
    Calls Try.prog 107 #[.agg #[.string k1, c1, c2, c3, c4, c5, c6], .agg #[.string k2, d1, d2, d3, d4, d5, d6]] w fun e w' => e = .returned (.bool (klt k1 k2)) ∧ Below w.heap.size w w' := by
  go_enter Try.func107, Try.ntmps107
  go_wp2_with fail
  go_ret
  exact ⟨rfl, ((Below.refl _ w).alloc (Nat.le_refl _) _).alloc (by simp) _⟩

theorem take_some {α : Type} {l : List α} {n j : Nat} {u : α} (h : (l.take n)[j]? = some u) : j < n ∧ l[j]? = some u := by
  rw [List.getElem?_take] at h
  by_cases hj : j < n
  · rw [if_pos hj] at h; exact ⟨hj, h⟩
  · rw [if_neg hj] at h; cases h
theorem rising_take (es : List En) (i : Nat) {x y : En} (hx : es[i]? = some x) (hy : es[i + 1]? = some y) (h : rising (es.take (i + 1)) = true) :
    rising (es.take (i + 2)) = klt x.1 y.1 := by
  cases hk : klt x.1 y.1 with
  | true =>
    rw [rising_iff] at h ⊢
    intro j u v hu hv
    replace hu := (take_some hu).2
    obtain ⟨hj, hv'⟩ := take_some hv
    replace hv := hv'
    by_cases e : j = i
    · subst e
      rw [hx] at hu; rw [hy] at hv
      injection hu with hu; injection hv with hv
      subst hu; subst hv
      exact hk
    · exact h j u v (by rw [List.getElem?_take, if_pos (by omega)]; exact hu) (by rw [List.getElem?_take, if_pos (by omega)]; exact hv)
  | false =>
    cases hr : rising (es.take (i + 2)) with
    | false => rfl
    | true =>
      have := (rising_iff _).1 hr i x y (by rw [List.getElem?_take, if_pos (by omega)]; exact hx) (by rw [List.getElem?_take, if_pos (by omega)]; exact hy)
      rw [hk] at this
      cases this
theorem rising_part {es : List En} {i : Nat} (h : rising (es.take i) = false) : rising es = false := by
  cases hr : rising es with
  | false => rfl
  | true =>
    rw [rising_iff] at hr
    have : rising (es.take i) = true := by
      rw [rising_iff]
      intro j u v hu hv
      exact hr j u v (take_some hu).2 (take_some hv).2
    rw [h] at this
    cases this

set_option maxRecDepth 100000 in
set_option maxHeartbeats 4000000 in
theorem risingE_any (es : List En) (hl : es.length * 104 ≤ 140737488355328) (w : World) (S : Nat → Prop) (p : Option Addr) (c : Nat) (h : EIn w S es p) :
    Calls Try.prog 106 #[.slice p es.length c, .func (.func 107) #[] #[]] w fun e w' => e = .returned (.bool (rising es)) ∧ Below w.heap.size w w' := by
  have H := Lib.hid h
  clear h
  go_enter Try.func106, Try.ntmps106
  go_wp2_with fail
  go_loopw [5] (fun vi wr => ∃ i : Nat, vi = .int .i64 (i + 1) ∧ i ≤ es.length ∧ Hid (rising (es.take (i + 1)) = true) ∧ Below w.heap.size w wr) (fun vi _ => es.length + 1 - (intOf vi).toNat)
  case atStart =>
    refine ⟨0, rfl, by omega, ?_, Below.refl _ _⟩
    match es with
    | [] => rfl
    | [x] => rfl
    | x :: y :: l => rfl
  case round =>
    obtain ⟨i, rfl, hi, hr, hb⟩ := hrel
    by_cases hlt : i + 1 < es.length
    · obtain ⟨x, hx⟩ : ∃ x, es[i]? = some x := ⟨_, List.getElem?_eq_getElem (by omega)⟩
      obtain ⟨y, hy⟩ : ∃ y, es[i + 1]? = some y := ⟨_, List.getElem?_eq_getElem (by omega)⟩
      obtain ⟨a, ql, dl, qo, do_, rfl, hSa, hcx, _⟩ := H.out i x hx
      obtain ⟨a', ql', dl', qo', do_', ha', _, hcy, _⟩ := H.out (i + 1) y hy
      injection ha' with ha'
      subst ha'
      have hcx' : Cells wr (a.add (i * 7)) (ecells x.1 x.2 ql dl qo do_) := hcx.keep (S := S) (fun b _ hl => hb.block b hl) (by rw [block_add]; exact hSa)
      have hcy' : Cells wr (a.add ((i + 1) * 7)) (ecells y.1 y.2 ql' dl' qo' do_') := hcy.keep (S := S) (fun b _ hl => hb.block b hl) (by rw [block_add]; exact hSa)
      obtain ⟨e0, e1, e2, e3, e4, e5, e6⟩ := hcx'.at7
      obtain ⟨f0, f1, f2, f3, f4, f5, f6⟩ := hcy'.at7
      have hstep := rising_take es i hx hy hr.out
      have Hstep := Lib.hid hstep
      clear hcx hcy hcx' hcy' hstep hx hy
      have hw1 : IntKind.i64.wrap (i : Int) = (i : Int) := IntWalk.i64_in _ (by omega)
      have hw4 : (i : Int) < (es.length : Int) := by omega
      have hw2 : ((i : Int) + 1).toNat = i + 1 := by omega
      have hw3 : (i : Int) + 1 < (es.length : Int) := by omega
      have Hb := Lib.hid hb
      cases hk : klt x.1 y.1 with
      | true =>
        go_wp2_with fail
        go_region_with (first
          | (go_at_call 107; refine (leaf1_any _ _ _ _ _ _ _ _ _ _ _ _ _ _ _).mono ?_; rintro e w1 ⟨rfl, hb1⟩))
        all_goals
          go_wp2_with fail
          go_roundw
          case rel => exact ⟨i + 1, by go_num, by omega, by rw [Hid, Hstep.out]; first | assumption | rfl, below_then hb hb.size (below_of_drew hb1)⟩
          case measure => simp [intOf]; omega
      | false =>
        go_wp2_with fail
        go_region_with (first
          | (go_at_call 107; refine (leaf1_any _ _ _ _ _ _ _ _ _ _ _ _ _ _ _).mono ?_; rintro e w1 ⟨rfl, hb1⟩))
        all_goals
          go_wp2_with fail
          go_ret
          exact ⟨by rw [rising_part (i := i + 2) (by rw [Hstep.out]; first | assumption | rfl)]; rfl, below_then hb hb.size (below_of_drew hb1)⟩
    · go_wp2_with fail
      go_ret
      refine ⟨?_, hb⟩
      have := hr.out
      rw [List.take_of_length_le (by omega)] at this
      rw [this]
      rfl
end Go.Proofs.Ytajcmpafbcpicaa
