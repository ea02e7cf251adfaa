/- Plain laws: a key's entry in a rising list: its place, put, taken away. No program in sight. No conditions. -/
import Derived.Test.YtajcmpafbcpicaaShapeLaws
set_option linter.unusedVariables false
set_option linter.unusedSimpArgs false
namespace Go.Proofs.Ytajcmpafbcpicaa

def insE (k : Key) (v : V) : List En → List En
  | [] => [(k, v)]
  | x :: l => if klt x.1 k then x :: insE k v l else if klt k x.1 then (k, v) :: x :: l else (k, v) :: l
def delE (k : Key) : List En → List En
  | [] => []
  | x :: l => if klt x.1 k then x :: delE k l else if klt k x.1 then x :: l else l
def getE (k : Key) : List En → Option V
  | [] => none
  | x :: l => if klt x.1 k then getE k l else if klt k x.1 then none else some x.2
/-- How many are ahead of a key. -/
def rankE (k : Key) : List En → Nat
  | [] => 0
  | x :: l => if klt x.1 k then rankE k l + 1 else 0

section
variable {k : Key} {v : V} {l a b c : List En}
theorem rankE_le (k : Key) : ∀ l : List En, rankE k l ≤ l.length
  | [] => by simp [rankE]
  | x :: l => by
    have := rankE_le k l
    simp only [rankE, List.length_cons]
    split <;> omega
theorem rankE_lt : ∀ {l : List En}, getE k l ≠ none → rankE k l < l.length
  | [], h => absurd rfl h
  | x :: l, h => by
    simp only [getE] at h
    simp only [rankE, List.length_cons]
    split
    · rename_i hx
      simp only [hx, if_true] at h
      have := rankE_lt h
      omega
    · omega
theorem insE_has : ∀ {l : List En}, getE k l ≠ none → insE k v l = l.set (rankE k l) (k, v)
  | [], h => absurd rfl h
  | x :: l, h => by
    simp only [getE] at h
    simp only [insE, rankE]
    split
    · rename_i hx
      simp only [hx, if_true] at h
      rw [insE_has h, List.set_cons_succ]
    · rename_i hx
      rw [if_neg hx] at h
      split
      · rename_i hk
        rw [if_pos hk] at h
        exact absurd rfl h
      · rfl
theorem insE_new : ∀ {l : List En}, getE k l = none → insE k v l = l.take (rankE k l) ++ (k, v) :: l.drop (rankE k l)
  | [], _ => rfl
  | x :: l, h => by
    simp only [getE] at h
    simp only [insE, rankE]
    split
    · rename_i hx
      simp only [hx, if_true] at h
      rw [insE_new h, List.take_succ_cons, List.drop_succ_cons]; rfl
    · rename_i hx
      rw [if_neg hx] at h
      split
      · rfl
      · rename_i hk
        rw [if_neg hk] at h
        cases h
theorem delE_has : ∀ {l : List En}, getE k l ≠ none → delE k l = l.take (rankE k l) ++ l.drop (rankE k l + 1)
  | [], h => absurd rfl h
  | x :: l, h => by
    simp only [getE] at h
    simp only [delE, rankE]
    split
    · rename_i hx
      simp only [hx, if_true] at h
      rw [delE_has h, List.take_succ_cons, List.drop_succ_cons]; rfl
    · rename_i hx
      rw [if_neg hx] at h
      split
      · rename_i hk
        rw [if_pos hk] at h
        exact absurd rfl h
      · rfl
theorem delE_none : ∀ {l : List En}, getE k l = none → delE k l = l
  | [], _ => rfl
  | x :: l, h => by
    simp only [getE] at h
    simp only [delE]
    split
    · rename_i hx
      simp only [hx, if_true] at h
      rw [delE_none h]
    · rename_i hx
      rw [if_neg hx] at h
      split
      · rfl
      · rename_i hk
        rw [if_neg hk] at h
        cases h
theorem getE_at : ∀ {l : List En} {u : V}, getE k l = some u → l[rankE k l]? = some (k, u)
  | [], _, h => by cases h
  | x :: l, u, h => by
    simp only [getE] at h
    simp only [rankE]
    split
    · rename_i hx
      simp only [hx, if_true] at h
      simpa using getE_at h
    · rename_i hx
      rw [if_neg hx] at h
      split at h
      · cases h
      · rename_i hk
        injection h with h
        have : x.1 = k := klt_total (by simpa using hx) (by simpa using hk)
        obtain ⟨x1, x2⟩ := x
        simp only at this h
        subst this; subst h
        rfl
/-- Ahead of its place all are less. -/
theorem rankE_before : ∀ {l : List En} {i : Nat} {x : En}, i < rankE k l → l[i]? = some x → klt x.1 k = true
  | [], i, x, h, _ => by simp [rankE] at h
  | y :: l, i, x, h, hx => by
    simp only [rankE] at h
    split at h
    · rename_i hy
      match i, hx with
      | 0, hx => simp at hx; subst hx; exact hy
      | i + 1, hx => exact rankE_before (l := l) (i := i) (by omega) (by simpa using hx)
    · omega
/-- From its place on none is less. -/
theorem rankE_behind : ∀ {l : List En} {i : Nat} {x : En}, rising l = true → rankE k l ≤ i → l[i]? = some x → klt x.1 k = false
  | [], i, x, _, _, hx => by simp at hx
  | y :: l, i, x, hr, h, hx => by
    simp only [rankE] at h
    split at h
    · match i, hx with
      | 0, hx => omega
      | i + 1, hx => exact rankE_behind (l := l) (i := i) (rising_tail hr) (by omega) (by simpa using hx)
    · rename_i hy
      have hy' : klt y.1 k = false := by simpa using hy
      match i, hx with
      | 0, hx => simp at hx; subst hx; exact hy'
      | i + 1, hx =>
        have h1 := rising_lt hr x (List.mem_of_getElem? (l := l) (i := i) (by simpa using hx))
        cases hk : klt x.1 k with
        | false => rfl
        | true => have := klt_trans h1 hk; rw [hy'] at this; cases this
theorem getE_iff : (getE k l).isSome = (match l[rankE k l]? with | some x => !klt k x.1 | none => false) := by
  induction l with
  | nil => rfl
  | cons x l ih =>
    simp only [getE, rankE]
    split
    · simpa using ih
    · simp only [List.getElem?_cons_zero]
      split
      · rename_i hk; simp [hk]
      · rename_i hk
        have : klt k x.1 = false := by simpa using hk
        simp [this]

theorem insE_skip (h : ∀ x ∈ a, klt x.1 k = true) : insE k v (a ++ b) = a ++ insE k v b := by
  induction a with
  | nil => rfl
  | cons x a ih =>
    rw [List.cons_append, insE, if_pos (h x (by simp)), ih fun y hy => h y (by simp [hy])]; rfl
theorem insE_stop (h : ∀ y ∈ c, klt k y.1 = true) : insE k v (b ++ c) = insE k v b ++ c := by
  induction b with
  | nil =>
    cases c with
    | nil => rfl
    | cons y c =>
      have := h y (by simp)
      simp [insE, klt_asymm this, this]
  | cons x b ih =>
    simp only [List.cons_append, insE]
    split
    · rw [ih]; rfl
    · split <;> rfl
theorem delE_skip (h : ∀ x ∈ a, klt x.1 k = true) : delE k (a ++ b) = a ++ delE k b := by
  induction a with
  | nil => rfl
  | cons x a ih =>
    rw [List.cons_append, delE, if_pos (h x (by simp)), ih fun y hy => h y (by simp [hy])]; rfl
theorem delE_stop (h : ∀ y ∈ c, klt k y.1 = true) : delE k (b ++ c) = delE k b ++ c := by
  induction b with
  | nil =>
    cases c with
    | nil => rfl
    | cons y c =>
      have := h y (by simp)
      simp [delE, klt_asymm this, this]
  | cons x b ih =>
    simp only [List.cons_append, delE]
    split
    · rw [ih]; rfl
    · split <;> rfl
theorem getE_skip (h : ∀ x ∈ a, klt x.1 k = true) : getE k (a ++ b) = getE k b := by
  induction a with
  | nil => rfl
  | cons x a ih =>
    rw [List.cons_append, getE, if_pos (h x (by simp)), ih fun y hy => h y (by simp [hy])]
theorem getE_stop (h : ∀ y ∈ c, klt k y.1 = true) : getE k (b ++ c) = getE k b := by
  induction b with
  | nil =>
    cases c with
    | nil => rfl
    | cons y c =>
      have := h y (by simp)
      simp [getE, klt_asymm this, this]
  | cons x b ih =>
    simp only [List.cons_append, getE]
    split
    · rw [ih]
    · split <;> rfl
theorem insE_mem {x : En} : x ∈ insE k v l → x = (k, v) ∨ x ∈ l := by
  induction l with
  | nil => intro h; simp [insE] at h; exact .inl h
  | cons y l ih =>
    simp only [insE]
    split
    · intro h
      rcases List.mem_cons.1 h with rfl | h
      · exact .inr (by simp)
      · rcases ih h with h | h
        · exact .inl h
        · exact .inr (by simp [h])
    · split
      · intro h
        rcases List.mem_cons.1 h with rfl | h
        · exact .inl rfl
        · exact .inr h
      · intro h
        rcases List.mem_cons.1 h with rfl | h
        · exact .inl rfl
        · exact .inr (by simp [h])
theorem delE_mem {x : En} : x ∈ delE k l → x ∈ l := by
  induction l with
  | nil => intro h; simp [delE] at h
  | cons y l ih =>
    simp only [delE]
    split
    · intro h
      rcases List.mem_cons.1 h with rfl | h
      · simp
      · simp [ih h]
    · split
      · exact id
      · intro h; simp [h]
theorem insE_rising : ∀ {l : List En}, rising l = true → rising (insE k v l) = true
  | [], _ => rfl
  | x :: l, h => by
    simp only [insE]
    split
    · rename_i hx
      refine rising_of (fun y hy => ?_) (insE_rising (rising_tail h))
      rcases insE_mem hy with rfl | hy
      · exact hx
      · exact rising_lt h y hy
    · rename_i hx
      split
      · rename_i hk
        rw [rising_cons, Bool.and_eq_true]; exact ⟨hk, h⟩
      · rename_i hk
        have e : x.1 = k := klt_total (by simpa using hx) (by simpa using hk)
        refine rising_of (fun y hy => ?_) (rising_tail h)
        show klt k y.1 = true
        rw [← e]; exact rising_lt h y hy
theorem delE_rising : ∀ {l : List En}, rising l = true → rising (delE k l) = true
  | [], _ => rfl
  | x :: l, h => by
    simp only [delE]
    split
    · exact rising_of (fun y hy => rising_lt h y (delE_mem hy)) (delE_rising (rising_tail h))
    · split
      · exact h
      · exact rising_tail h
theorem insE_length : (insE k v l).length = if (getE k l).isSome then l.length else l.length + 1 := by
  cases h : getE k l with
  | none => rw [insE_new h]; have := rankE_le k l; simp; omega
  | some u => rw [insE_has (by rw [h]; simp)]; simp
theorem insE_ne : insE k v l ≠ [] := by
  intro e
  have := insE_length (k := k) (v := v) (l := l)
  rw [e] at this
  cases h : getE k l with
  | none => rw [h] at this; simp at this
  | some u =>
    have h1 := rankE_lt (k := k) (l := l) (by rw [h]; simp)
    rw [h] at this
    simp at this
    rw [← this] at h1
    simp at h1
theorem delE_length (h : getE k l ≠ none) : (delE k l).length + 1 = l.length := by
  have := rankE_lt h
  rw [delE_has h]
  simp
  omega
end
end Go.Proofs.Ytajcmpafbcpicaa
