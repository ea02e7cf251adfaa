/- Node's readers: Height, Count, Size, First, Last. Condition: the node lies in memory (First, Last: and is one that may be). -/
import Derived.Test.YtajcmpafbcpicaaProg
import Derived.Test.YtajcmpafbcpicaaNodeMem
import Derived.Test.YtajcmpafbcpicaaShapeLaws
import Derived.WalkSpells
import Derived.WalkLawsBesides
import Derived.Deep.QuietTactic
import Derived.BigQuiet
import Derived.Deep.LoopGhost
import Derived.Outline
set_option linter.unusedVariables false
set_option linter.unusedSimpArgs false
namespace Go.Proofs.Ytajcmpafbcpicaa
open Go.RowKit

theorem height_nil (w : World) : Calls Try.prog 40 #[.pointer none] w fun e w' => e = .returned (.int .i64 0) ∧ w = w' := by
  go_enter Try.func40, Try.ntmps40
  go_wp2_with fail
  go_ret
  exact ⟨rfl, rfl⟩
theorem height_any {S : Nat → Prop} {n : Nd} (w : World) (h : NIn w S n) : Calls Try.prog 40 #[nptr n] w fun e w' => e = .returned (.int .i64 (n.hgt : Nat)) ∧ w = w' := by
  obtain ⟨pe, pk, ce, ck, _, h0, h1, h2, h3, _⟩ := h.open_
  go_enter Try.func40, Try.ntmps40
  go_wp2_with fail
  go_ret
  exact ⟨rfl, rfl⟩
theorem count_nil (w : World) : Calls Try.prog 42 #[.pointer none] w fun e w' => e = .returned (.int .i64 0) ∧ w = w' := by
  go_enter Try.func42, Try.ntmps42
  go_wp2_with fail
  go_ret
  exact ⟨rfl, rfl⟩
theorem count_any {S : Nat → Prop} {n : Nd} (w : World) (h : NIn w S n) : Calls Try.prog 42 #[nptr n] w fun e w' => e = .returned (.int .i64 (n.cnt : Nat)) ∧ w = w' := by
  obtain ⟨pe, pk, ce, ck, _, h0, h1, h2, h3, _⟩ := h.open_
  go_enter Try.func42, Try.ntmps42
  go_wp2_with fail
  go_ret
  exact ⟨rfl, rfl⟩
theorem size_any {S : Nat → Prop} {n : Nd} (w : World) (h : NIn w S n) (hl : n.es.length ≤ 1099511627776) (hk : n.kids.length ≤ 1099511627776) :
    Calls Try.prog 46 #[nptr n] w fun e w' => e = .returned (.int .i64 ((n.es.length + n.kids.length : Nat))) ∧ ∃ q, w' = w.drewN q := by
  obtain ⟨pe, pk, ce, ck, _, h0, h1, h2, h3, _⟩ := h.open_
  go_enter Try.func46, Try.ntmps46
  go_wp2_with fail
  go_quiet (fail)
  go_wp2_with fail
  go_ret
  exact ⟨by first | rfl | (congr 2; omega), _, rfl⟩
set_option maxHeartbeats 1000000 in
theorem first_any {S : Nat → Prop} {n : Nd} (w : World) (h : NIn w S n) (hok : n.ok) : Calls Try.prog 47 #[nptr n] w fun e w' => e = .returned (.string (firstKey n.sh.flat)) ∧ w = w' := by
  go_enter Try.func47, Try.ntmps47
  go_wp2_with fail
  go_loopg [0] n.hgt (fun k p wr => ∃ m : Nd, p = nptr m ∧ w = wr ∧ Hid (m.hgt = k) ∧ Hid (NIn w S m) ∧ Hid (m.ok) ∧ Hid (firstKey m.sh.flat = firstKey n.sh.flat))
  case atStart => exact ⟨n, rfl, rfl, rfl, h, hok, rfl⟩
  case round =>
    obtain ⟨m, rfl, rfl, hk, hm, hmo, hf⟩ := hrel
    obtain ⟨pe, pk, ce, ck, _, h0, h1, h2, h3, hbd, he, hkk, hki⟩ := hm.out.open_
    have He := Lib.hid he
    have Hkk := Lib.hid hkk
    have Hki := Lib.hid hki
    clear he hkk hki
    by_cases hp : 0 < m.hgt
    · have hne := (Nd.hgt_pos m).1 hp
      obtain ⟨k0, hk0⟩ : ∃ k0, m.kids[0]? = some k0 := by
        cases hks : m.kids with
        | nil => exact absurd hks hne
        | cons x l => exact ⟨x, rfl⟩
      have hkl : 0 < m.kids.length := List.length_pos_iff.2 hne
      obtain ⟨ad, rfl, _, hcell⟩ := Hkk.out 0 k0 hk0
      simp only [add_zero] at hcell
      have Hk0 := Lib.hid hk0
      have Hne := Lib.hid hne
      clear hne hk0
      go_wp2_with fail
      go_roundg k0.hgt
      case measure => have := (Nd.ok_kid hmo.out (List.mem_of_getElem? Hk0.out)).2.2; have := hk.out; omega
      case rel => exact ⟨k0, rfl, rfl, rfl, Hki.out 0 k0 Hk0.out, (Nd.ok_kid hmo.out (List.mem_of_getElem? Hk0.out)).1, (Nd.first_kid hmo.out Hk0.out).symm.trans hf.out⟩
    · have hks : m.kids = [] := by
        by_cases e : m.kids = []
        · exact e
        · exact absurd ((Nd.hgt_pos m).2 e) hp
      have hfl := Nd.flat_leaf hks
      have hcnt : m.cnt = m.es.length := by unfold Nd.cnt; rw [hfl]
      have Hfl := Lib.hid hfl
      have Hcnt := Lib.hid hcnt
      have hz : m.hgt = 0 := by omega
      have hz' : (m.hgt : Int) = 0 := by omega
      clear hks hfl hcnt
      cases hes : m.es with
      | nil =>
        have hc0 : m.cnt = 0 := by rw [Hcnt.out, hes]; rfl
        have Hes := Lib.hid hes
        clear hes
        go_wp2_with fail
        refine (count_any w hm.out).mono ?_
        rintro e w1 ⟨rfl, rfl⟩
        go_wp2_with fail
        go_ret
        refine ⟨?_, rfl⟩
        rw [← hf.out, Hfl.out, Hes.out]
        rfl
      | cons x l =>
        have hc0 : 0 < m.cnt := by rw [Hcnt.out, hes]; simp
        have hx : m.es[0]? = some x := by rw [hes]; rfl
        obtain ⟨ad, ql, dl, qo, do_, rfl, _, hcell, _⟩ := He.out _ _ hx
        have hk := hcell 0 _ rfl
        simp only [add_zero, Nat.zero_mul] at hk
        have hlen : 0 < m.es.length := by rw [hes]; simp
        have Hes := Lib.hid hes
        have Hx := Lib.hid hx
        clear hes hx hcell
        go_wp2_with fail
        refine (count_any w hm.out).mono ?_
        rintro e w1 ⟨rfl, rfl⟩
        go_wp2_with fail
        go_ret
        refine ⟨?_, rfl⟩
        rw [← hf.out, Hfl.out, Hes.out]
        rfl
set_option maxHeartbeats 1000000 in
theorem last_any {S : Nat → Prop} {n : Nd} (w : World) (h : NIn w S n) (hok : n.ok) : Calls Try.prog 48 #[nptr n] w fun e w' => e = .returned (.string (lastKey n.sh.flat)) ∧ ∃ q, w' = w.drewN q := by
  go_enter Try.func48, Try.ntmps48
  go_wp2_with fail
  go_loopg [0] n.hgt (fun k p wr => ∃ m : Nd, p = nptr m ∧ (∃ q, wr = w.drewN q) ∧ Hid (m.hgt = k) ∧ Hid (NIn w S m) ∧ Hid (m.ok) ∧ Hid (lastKey m.sh.flat = lastKey n.sh.flat))
  case atStart => exact ⟨n, rfl, ⟨0, rfl⟩, rfl, h, hok, rfl⟩
  case round =>
    obtain ⟨m, rfl, ⟨q, rfl⟩, hk, hm, hmo, hf⟩ := hrel
    obtain ⟨pe, pk, ce, ck, _, h0, h1, h2, h3, hbd, he, hkk, hki⟩ := hm.out.open_
    have He := Lib.hid he
    have Hkk := Lib.hid hkk
    have Hki := Lib.hid hki
    clear he hkk hki
    by_cases hp : 0 < m.hgt
    · have hne := (Nd.hgt_pos m).1 hp
      have hkl : 0 < m.kids.length := List.length_pos_iff.2 hne
      obtain ⟨k0, hk0⟩ : ∃ k0, m.kids[m.kids.length - 1]? = some k0 := ⟨_, List.getElem?_eq_getElem (by omega)⟩
      obtain ⟨_, _, hk8⟩ := Nd.ok_inner hmo.out hne
      obtain ⟨ad, rfl, _, hcell⟩ := Hkk.out _ k0 hk0
      have Hk0 := Lib.hid hk0
      have Hne := Lib.hid hne
      clear hne hk0
      go_wp2_with fail
      go_quiet (fail)
      go_wp2_with fail
      go_roundg k0.hgt
      case measure => have := (Nd.ok_kid hmo.out (List.mem_of_getElem? Hk0.out)).2.2; have := hk.out; omega
      case rel => exact ⟨k0, rfl, ⟨_, World.drewN_drewN ..⟩, rfl, Hki.out _ k0 Hk0.out, (Nd.ok_kid hmo.out (List.mem_of_getElem? Hk0.out)).1, (Nd.last_kid hmo.out Hk0.out).symm.trans hf.out⟩
    · have hks : m.kids = [] := by
        by_cases e : m.kids = []
        · exact e
        · exact absurd ((Nd.hgt_pos m).2 e) hp
      have hfl := Nd.flat_leaf hks
      have hcnt : m.cnt = m.es.length := by unfold Nd.cnt; rw [hfl]
      have Hfl := Lib.hid hfl
      have Hcnt := Lib.hid hcnt
      have hz : m.hgt = 0 := by omega
      have hz' : (m.hgt : Int) = 0 := by omega
      clear hks hfl hcnt
      cases hes : m.es with
      | nil =>
        have hc0 : m.cnt = 0 := by rw [Hcnt.out, hes]; rfl
        have Hes := Lib.hid hes
        clear hes
        go_wp2_with fail
        refine (count_any _ (hm.out.drewN q)).mono ?_
        rintro e w1 ⟨rfl, rfl⟩
        go_wp2_with fail
        go_ret
        refine ⟨?_, _, rfl⟩
        rw [← hf.out, Hfl.out, Hes.out]
        rfl
      | cons x l =>
        have hc0 : 0 < m.cnt := by rw [Hcnt.out, hes]; simp
        have hx : m.es[m.es.length - 1]? = some ((x :: l).getLast (by simp)) := by rw [hes, List.getLast_eq_getElem]; exact List.getElem?_eq_getElem _
        obtain ⟨ad, ql, dl, qo, do_, rfl, _, hcell, _⟩ := He.out _ _ hx
        have hk := hcell 0 _ rfl
        simp only [add_zero] at hk
        have hlm : m.es.length ≤ 1099511627776 := by have := hbd.1; rw [Hcnt.out] at this; exact this
        have hlen : 0 < m.es.length := by rw [hes]; simp
        have Hes := Lib.hid hes
        have Hx := Lib.hid hx
        clear hes hx hcell
        go_wp2_with fail
        refine (count_any _ (hm.out.drewN q)).mono ?_
        rintro e w1 ⟨rfl, rfl⟩
        go_wp2_with fail
        go_quiet (fail)
        go_wp2_with fail
        go_ret
        refine ⟨?_, _, World.drewN_drewN ..⟩
        rw [← hf.out, Hfl.out, Hes.out]
        simp [lastKey, List.getLast?_eq_some_getLast]
end Go.Proofs.Ytajcmpafbcpicaa
