/- Plain facts: strings as Go compares them. No conditions. -/
import GoSem.Op.String
import Derived.Lib.Strings
set_option linter.unusedVariables false
set_option linter.unusedSimpArgs false
namespace Go.Proofs.Ytajcmpafbcpicaa

theorem bytesLess_irrefl : ∀ x : List UInt8, Op.bytesLess x x = false
  | [] => rfl
  | a :: x => by simp [Op.bytesLess, bytesLess_irrefl x, UInt8.lt_irrefl]
theorem bytesLess_trans : ∀ {x y z : List UInt8}, Op.bytesLess x y = true → Op.bytesLess y z = true → Op.bytesLess x z = true
  | _, [], _, h, _ => by simp [Op.bytesLess] at h
  | [], _ :: _, [], _, h => by simp [Op.bytesLess] at h
  | [], _ :: _, _ :: _, _, _ => by simp [Op.bytesLess]
  | _ :: _, _ :: _, [], _, h => by simp [Op.bytesLess] at h
  | a :: x, b :: y, c :: z, h, k => by
    simp only [Op.bytesLess, Bool.or_eq_true, Bool.and_eq_true, decide_eq_true_eq, beq_iff_eq] at h k ⊢
    rcases h with h | ⟨rfl, h⟩
    · rcases k with k | ⟨rfl, k⟩
      · exact .inl (UInt8.lt_trans h k)
      · exact .inl h
    · rcases k with k | ⟨rfl, k⟩
      · exact .inl k
      · exact .inr ⟨rfl, bytesLess_trans h k⟩
theorem bytesLess_total : ∀ (x y : List UInt8), Op.bytesLess x y = false → Op.bytesLess y x = false → x = y
  | [], [], _, _ => rfl
  | [], _ :: _, h, _ => by simp [Op.bytesLess] at h
  | _ :: _, [], _, h => by simp [Op.bytesLess] at h
  | a :: x, b :: y, h, k => by
    simp only [Op.bytesLess, Bool.or_eq_false_iff, Bool.and_eq_false_iff, decide_eq_false_iff_not, beq_eq_false_iff_ne] at h k
    have hab : a = b := by
      apply UInt8.toNat.inj
      have h1 := h.1; have k1 := k.1
      rw [UInt8.lt_iff_toNat_lt] at h1 k1
      omega
    subst hab
    simp only [ne_eq, not_true_eq_false, false_or] at h k
    rw [bytesLess_total x y h.2 k.2]

abbrev Key := ByteArray
def klt (a b : Key) : Bool := Op.bytesLess a.toList b.toList
theorem toList_inj {a b : Key} (h : a.toList = b.toList) : a = b := by
  rw [Lib.toList_data, Lib.toList_data] at h
  cases a; cases b
  simpa using h
theorem klt_irrefl (a : Key) : klt a a = false := bytesLess_irrefl _
theorem klt_trans {a b c : Key} (h : klt a b = true) (k : klt b c = true) : klt a c = true := bytesLess_trans h k
theorem klt_total {a b : Key} (h : klt a b = false) (k : klt b a = false) : a = b := toList_inj (bytesLess_total _ _ h k)
theorem klt_asymm {a b : Key} (h : klt a b = true) : klt b a = false := by
  cases k : klt b a with
  | false => rfl
  | true => have := klt_trans h k; rw [klt_irrefl] at this; cases this
theorem keq_iff (a b : Key) : (a.toList == b.toList) = decide (a = b) := by
  by_cases h : a = b
  · subst h; simp
  · simp only [h, decide_false, beq_eq_false_iff_ne, ne_eq]
    exact fun e => h (toList_inj e)
theorem kle_iff (a b : Key) : (klt a b || decide (a = b)) = !klt b a := by
  by_cases h : a = b
  · subst h; simp [klt_irrefl]
  · cases hab : klt a b with
    | true => simp [klt_asymm hab]
    | false =>
      cases hba : klt b a with
      | true => simp [h]
      | false => exact absurd (klt_total hab hba) h
end Go.Proofs.Ytajcmpafbcpicaa
