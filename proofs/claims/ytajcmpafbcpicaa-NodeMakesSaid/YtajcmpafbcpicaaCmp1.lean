/- The document's numbers and texts: which of two is ahead. No conditions. -/
import Derived.Test.YtajcmpafbcpicaaProg
import Derived.Test.YtajcmpafbcpicaaMem
import Derived.Test.YtajcmpafbcpicaaQuiets
import Derived.WalkSpells
import Derived.WalkLawsBesides
import Derived.Deep.QuietTactic
import Derived.BigQuiet
import Derived.Outline
set_option linter.unusedVariables false
set_option linter.unusedSimpArgs false
namespace Go.Proofs.Ytajcmpafbcpicaa
open Go.RowKit

theorem bl_ne : ∀ (i : Nat) (la lb : List UInt8) (x y : UInt8), (∀ j, j < i → la[j]? = lb[j]?) → la[i]? = some x → lb[i]? = some y → x ≠ y → Op.bytesLess la lb = decide (x < y)
  | 0, [], _, _, _, _, h, _, _ => by simp at h
  | 0, _ :: _, [], _, _, _, _, h, _ => by simp at h
  | 0, a :: la, b :: lb, x, y, _, hx, hy, hne => by
    simp at hx hy
    subst hx; subst hy
    simp [Op.bytesLess, hne]
  | i + 1, [], _, _, _, _, h, _, _ => by simp at h
  | i + 1, _ :: _, [], _, _, _, _, h, _ => by simp at h
  | i + 1, a :: la, b :: lb, x, y, hp, hx, hy, hne => by
    have h0 := hp 0 (by omega)
    simp at h0
    subst h0
    simp only [Op.bytesLess, UInt8.lt_irrefl, decide_false, Bool.false_or, beq_self_eq_true, Bool.true_and]
    exact bl_ne i la lb x y (fun j hj => by simpa using hp (j + 1) (by omega)) (by simpa using hx) (by simpa using hy) hne
theorem bl_end : ∀ (la lb : List UInt8), (∀ j, j < la.length → j < lb.length → la[j]? = lb[j]?) → Op.bytesLess la lb = decide (la.length < lb.length)
  | [], [], _ => by simp [Op.bytesLess]
  | [], _ :: _, _ => by simp [Op.bytesLess]
  | _ :: _, [], _ => by simp [Op.bytesLess]
  | a :: la, b :: lb, hp => by
    have h0 := hp 0 (by simp) (by simp)
    simp at h0
    subst h0
    simp only [Op.bytesLess, UInt8.lt_irrefl, decide_false, Bool.false_or, beq_self_eq_true, Bool.true_and, List.length_cons]
    rw [bl_end la lb fun j h1 h2 => by simpa using hp (j + 1) (by simpa using h1) (by simpa using h2)]
    by_cases h : la.length < lb.length <;> simp [h]
theorem cmpT_ne (a b : Key) (i : Nat) (x y : UInt8) (hp : ∀ j, j < i → a.data.toList[j]? = b.data.toList[j]?) (hx : a.data.toList[i]? = some x) (hy : b.data.toList[i]? = some y) (hne : x ≠ y) : cmpT a b = cmpI (x.toNat : Int) (y.toNat : Int) := by
  have h1 : klt a b = decide (x < y) := by
    unfold klt
    rw [Lib.toList_data, Lib.toList_data]
    exact bl_ne i _ _ x y hp hx hy hne
  have h2 : klt b a = decide (y < x) := by
    unfold klt
    rw [Lib.toList_data, Lib.toList_data]
    exact bl_ne i _ _ y x (fun j hj => (hp j hj).symm) hy hx hne.symm
  unfold cmpT cmpI
  rw [h1, h2]
  simp only [decide_eq_true_eq, UInt8.lt_iff_toNat_lt]
  by_cases h : x.toNat < y.toNat
  · simp [h]
  · by_cases h' : y.toNat < x.toNat
    · simp [h, h']
    · simp [h, h']
theorem cmpT_end (a b : Key) (hp : ∀ j, j < a.data.toList.length → j < b.data.toList.length → a.data.toList[j]? = b.data.toList[j]?) : cmpT a b = cmpI (a.size : Int) (b.size : Int) := by
  have sa : a.data.toList.length = a.size := by rw [Array.length_toList]; rfl
  have sb : b.data.toList.length = b.size := by rw [Array.length_toList]; rfl
  have h1 : klt a b = decide (a.size < b.size) := by
    unfold klt
    rw [Lib.toList_data, Lib.toList_data, bl_end _ _ hp, sa, sb]
  have h2 : klt b a = decide (b.size < a.size) := by
    unfold klt
    rw [Lib.toList_data, Lib.toList_data, bl_end _ _ (fun j h1 h2 => (hp j h2 h1).symm), sa, sb]
  unfold cmpT cmpI
  rw [h1, h2]
  simp only [decide_eq_true_eq, Int.ofNat_lt]

theorem numbers_any (a b : Int) (w : World) : Calls Try.prog 151 #[.int .i64 a, .int .i64 b] w fun e w' => e = .returned (.int .i64 (cmpI a b)) ∧ w = w' := by
  by_cases h : a < b
  · have H := Lib.hid (show cmpI a b = -1 by rw [cmpI, if_pos h])
    go_enter Try.func151, Try.ntmps151
    go_wp2_with fail
    go_ret
    exact ⟨by rw [H.out]; rfl, rfl⟩
  · by_cases h' : b < a
    · have H := Lib.hid (show cmpI a b = 1 by rw [cmpI, if_neg h, if_pos h'])
      go_enter Try.func151, Try.ntmps151
      go_wp2_with fail
      go_ret
      exact ⟨by rw [H.out]; rfl, rfl⟩
    · have H := Lib.hid (show cmpI a b = 0 by rw [cmpI, if_neg h, if_neg h'])
      go_enter Try.func151, Try.ntmps151
      go_wp2_with fail
      go_ret
      exact ⟨by rw [H.out]; rfl, rfl⟩

set_option maxHeartbeats 1000000 in
theorem texts_any (a b : Key) (ha : a.size ≤ 140737488355328) (hb : b.size ≤ 140737488355328) (w : World) :
    Calls Try.prog 152 #[.string a, .string b] w fun e w' => e = .returned (.int .i64 (cmpT a b)) ∧ ∃ q, w' = w.drewN q := by
  have sa : a.data.toList.length = a.size := by rw [Array.length_toList]; rfl
  have sb : b.data.toList.length = b.size := by rw [Array.length_toList]; rfl
  have Sa := Lib.hid sa
  have Sb := Lib.hid sb
  clear sa sb
  go_enter Try.func152, Try.ntmps152
  go_wp2_with fail
  go_loopw [5] (fun vi wr => ∃ i q : Nat, vi = .int .i64 i ∧ i ≤ a.size ∧ i ≤ b.size ∧ wr = w.drewN q ∧ Hid (∀ j, j < i → a.data.toList[j]? = b.data.toList[j]?)) (fun vi _ => a.size - (intOf vi).toNat)
  case atStart => exact ⟨0, 0, rfl, by omega, by omega, rfl, fun j hj => by omega⟩
  case round =>
    obtain ⟨i, q, rfl, hia, hib, rfl, hp⟩ := hrel
    by_cases h1 : i < a.size
    · by_cases h2 : i < b.size
      · have hi0 : (0 : Int) ≤ (i : Int) := by omega
        have hi1 : (i : Int) < (a.size : Int) := by omega
        have hi2 : (i : Int) < (b.size : Int) := by omega
        by_cases hne : a[i] = b[i]
        · have hd : ((a[i].toNat : Int) != (b[i].toNat : Int)) = false := by rw [hne]; simp
          have Hne := Lib.hid hne
          clear hne
          go_wp2_with fail
          go_quiet (fail)
          go_wp2_with fail
          go_roundw
          case measure => simp [intOf]; omega
          case rel =>
            refine ⟨i + 1, _, by go_num, by omega, by omega, rfl, fun j hj => ?_⟩
            by_cases e : j = i
            · subst e
              have q1 : a.data.toList[j]? = some a[j] := by rw [Array.getElem?_toList]; exact Array.getElem?_eq_getElem _
              have q2 : b.data.toList[j]? = some b[j] := by rw [Array.getElem?_toList]; exact Array.getElem?_eq_getElem _
              rw [q1, q2, Hne.out]
            · exact hp.out j (by omega)
        · have hnn : a[i].toNat ≠ b[i].toNat := fun e => hne (UInt8.toNat.inj e)
          have hd : ((a[i].toNat : Int) != (b[i].toNat : Int)) = true := by rw [bne_iff_ne]; omega
          have q1 : a.data.toList[i]? = some a[i] := by rw [Array.getElem?_toList]; exact Array.getElem?_eq_getElem _
          have q2 : b.data.toList[i]? = some b[i] := by rw [Array.getElem?_toList]; exact Array.getElem?_eq_getElem _
          have Hfin := Lib.hid (cmpT_ne a b i _ _ hp.out q1 q2 hne)
          clear hne hnn q1 q2
          go_wp2_with fail
          go_quiet (fail)
          go_wp2_with fail
          go_quiet ((go_at_call 151; exact quiet_add_left (numbers_any _ _ _)))
          go_wp2_with fail
          go_ret
          have w1 : wrap64 (a[i].toNat : Int) = (a[i].toNat : Int) := by have := a[i].toNat_lt; unfold wrap64; omega
          have w2 : wrap64 (b[i].toNat : Int) = (b[i].toNat : Int) := by have := b[i].toNat_lt; unfold wrap64; omega
          exact ⟨by rw [Hfin.out, w1, w2]; rfl, _, by rw [World.drewN_drewN, World.drewN_drewN]⟩
      · have Hfin := Lib.hid (cmpT_end a b (fun j _ hj => hp.out j (by rw [Sb.out] at hj; omega)))
        have hi1 : (i : Int) < (a.size : Int) := by omega
        have hd : decide (i < b.size) = false := decide_eq_false h2
        have hd' : decide ((i : Int) < (b.size : Int)) = false := decide_eq_false (by omega)
        go_wp2_with (go_at_call 151; refine (numbers_any _ _ _).mono ?_; rintro e w1 ⟨rfl, rfl⟩)
        go_ret
        exact ⟨by rw [Hfin.out]; rfl, _, rfl⟩
    · have Hfin := Lib.hid (cmpT_end a b (fun j hj _ => hp.out j (by rw [Sa.out] at hj; omega)))
      have hd : decide (i < a.size) = false := decide_eq_false h1
      have hd' : decide ((i : Int) < (a.size : Int)) = false := decide_eq_false (by omega)
      go_wp2_with (go_at_call 151; refine (numbers_any _ _ _).mono ?_; rintro e w1 ⟨rfl, rfl⟩)
      go_ret
      exact ⟨by rw [Hfin.out]; rfl, _, rfl⟩
end Go.Proofs.Ytajcmpafbcpicaa
