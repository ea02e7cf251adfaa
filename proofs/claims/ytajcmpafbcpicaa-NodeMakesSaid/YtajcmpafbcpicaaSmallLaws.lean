/- Plain: what a small shape is (trim, neat, thin); how many entries a sound shape has by its height. No program in sight. -/
import Derived.Test.YtajcmpafbcpicaaRef4
import Derived.Test.YtajcmpafbcpicaaOf
set_option linter.unusedVariables false
set_option linter.unusedSimpArgs false
namespace Go.Proofs.Ytajcmpafbcpicaa
open Go.RowKit

theorem flats_len_le {c : Nat} : ∀ {ks : List Sh}, (∀ k ∈ ks, k.flat.length ≤ c) → (flats ks).length ≤ ks.length * c
  | [], _ => by simp [flats]
  | k :: l, h => by
    have h1 := h k (by simp)
    have h2 := flats_len_le (c := c) fun x hx => h x (List.mem_cons_of_mem _ hx)
    simp only [flats, List.length_append, List.length_cons]
    rw [Nat.add_mul]; omega
theorem flats_len_ge {c : Nat} : ∀ {ks : List Sh}, (∀ k ∈ ks, c ≤ k.flat.length) → ks.length * c ≤ (flats ks).length
  | [], _ => by simp
  | k :: l, h => by
    have h1 := h k (by simp)
    have h2 := flats_len_ge (c := c) fun x hx => h x (List.mem_cons_of_mem _ hx)
    simp only [flats, List.length_append, List.length_cons]
    rw [Nat.add_mul]; omega
theorem flats_nodes : ∀ {ks : List Sh}, (∀ k ∈ ks, k.flat.length ≤ 20 * k.nodes) → (flats ks).length ≤ 20 * nodess ks
  | [], _ => by simp [flats]
  | k :: l, h => by
    have h1 := h k (by simp)
    have h2 := flats_nodes fun x hx => h x (List.mem_cons_of_mem _ hx)
    simp only [flats, nodess, List.length_append]
    omega
theorem small_flat {d : Nat} : ∀ {s : Sh}, smallS d s = true → s.flat.length ≤ 20 * s.nodes := by
  induction d with
  | zero => intro s h; simp [smallS] at h
  | succ d ih =>
    intro s h
    obtain ⟨h1, h2, d', hd, hk⟩ := small_kid h
    obtain rfl : d = d' := by omega
    obtain ⟨es, ks⟩ := s
    simp only [Sh.es, Sh.kids] at h1 h2 hk
    cases ks with
    | nil => rw [Sh.flat_leaf]; simp [Sh.nodes]; omega
    | cons k l =>
      have : (Sh.mk es (k :: l)).flat = flats (k :: l) := by simp [Sh.flat]
      rw [this]
      have := flats_nodes (ks := k :: l) fun x hx => ih (hk x hx)
      simp only [Sh.nodes]; omega
theorem small_flat_le {d : Nat} {s : Sh} (h : smallS d s = true) : s.flat.length ≤ 8000 := by
  have h1 := small_flat h
  have h2 := small_nodes h
  omega
theorem small_trim {d : Nat} : ∀ {s : Sh}, d ≤ 1000 → smallS d s = true → s.Trim := by
  induction d with
  | zero => intro s _ h; simp [smallS] at h
  | succ d ih =>
    intro s hd h
    obtain ⟨_, _, d', hd', hk⟩ := small_kid h
    obtain rfl : d = d' := by omega
    have h1 := small_flat_le h
    have h2 := small_height h
    have h3 := small_thin h
    obtain ⟨es, ks⟩ := s
    exact .mk h3 (by omega) (by omega) fun k hk' => ih (by omega) (hk k hk')
theorem small_neat {d : Nat} : ∀ {s : Sh}, d ≤ 1000 → smallS d s = true → s.Neat := by
  induction d with
  | zero => intro s _ h; simp [smallS] at h
  | succ d ih =>
    intro s hd h
    obtain ⟨_, _, d', hd', hk⟩ := small_kid h
    obtain rfl : d = d' := by omega
    have h1 := small_flat_le h
    have h2 := small_height h
    obtain ⟨es, ks⟩ := s
    exact .mk (by omega) (by omega) fun k hk' => ih (by omega) (hk k hk')

theorem may_most : ∀ (h : Nat) {s : Sh}, s.height = h → s.may = true → s.flat.length ≤ 8 * 8 ^ h := by
  intro h
  induction h with
  | zero =>
    intro s hh hm
    obtain ⟨es, ks⟩ := s
    cases ks with
    | nil => rw [Sh.flat_leaf]; have := ((Sh.may_leaf es).1 hm).1; simpa using this
    | cons k l => simp [Sh.height] at hh
  | succ h ih =>
    intro s hh hm
    obtain ⟨es, ks⟩ := s
    cases ks with
    | nil => simp [Sh.height] at hh
    | cons k l =>
      obtain ⟨_, h2, h8, hall, _⟩ := (Sh.may_inner es (k :: l) (by simp)).1 hm
      have : (Sh.mk es (k :: l)).flat = flats (k :: l) := by simp [Sh.flat]
      rw [this]
      have hle := flats_len_le (c := 8 * 8 ^ h) (ks := k :: l) fun x hx => ih (by have := (hall x hx).2.2; omega) (hall x hx).1
      refine Nat.le_trans hle (Nat.le_trans (Nat.mul_le_mul_right _ h8) ?_)
      rw [Nat.pow_succ]; omega
theorem sounds_mem {ks : List Sh} (h : sounds ks = true) : ∀ k ∈ ks, k.sound false = true := by
  rw [sounds_all, List.all_eq_true] at h
  exact h
theorem sound_least : ∀ (h : Nat) {s : Sh}, s.height = h → s.may = true → s.sound false = true → 4 * 4 ^ h ≤ s.flat.length := by
  intro h
  induction h with
  | zero =>
    intro s hh hm hs
    obtain ⟨es, ks⟩ := s
    cases ks with
    | nil => rw [Sh.flat_leaf]; simp [Sh.sound] at hs; have := hs.1; simpa using this
    | cons k l => simp [Sh.height] at hh
  | succ h ih =>
    intro s hh hm hs
    obtain ⟨es, ks⟩ := s
    cases ks with
    | nil => simp [Sh.height] at hh
    | cons k l =>
      obtain ⟨he, h2, h8, hall, _⟩ := (Sh.may_inner es (k :: l) (by simp)).1 hm
      have : (Sh.mk es (k :: l)).flat = flats (k :: l) := by simp [Sh.flat]
      rw [this]
      simp only [Sh.sound, Bool.and_eq_true, Bool.false_or, decide_eq_true_eq] at hs
      have h4 : 4 ≤ (k :: l).length := by have := hs.1; rw [he] at this; simpa using this
      have hge := flats_len_ge (c := 4 * 4 ^ h) (ks := k :: l) fun x hx => ih (by have := (hall x hx).2.2; omega) (hall x hx).1 (sounds_mem hs.2 x hx)
      refine Nat.le_trans ?_ hge
      refine Nat.le_trans ?_ (Nat.mul_le_mul_right _ h4)
      rw [Nat.pow_succ]; omega
theorem root_least (h : Nat) {s : Sh} (hh : s.height = h + 1) (hm : s.may = true) (hs : s.sound true = true) : 2 * 4 ^ (h + 1) ≤ s.flat.length := by
  obtain ⟨es, ks⟩ := s
  cases ks with
  | nil => simp [Sh.height] at hh
  | cons k l =>
    obtain ⟨he, h2, h8, hall, _⟩ := (Sh.may_inner es (k :: l) (by simp)).1 hm
    have : (Sh.mk es (k :: l)).flat = flats (k :: l) := by simp [Sh.flat]
    rw [this]
    simp only [Sh.sound, Bool.and_eq_true] at hs
    have hge := flats_len_ge (c := 4 * 4 ^ h) (ks := k :: l) fun x hx => sound_least h (by have := (hall x hx).2.2; omega) (hall x hx).1 (sounds_mem hs.2 x hx)
    refine Nat.le_trans ?_ hge
    refine Nat.le_trans ?_ (Nat.mul_le_mul_right _ h2)
    rw [Nat.pow_succ]; omega
end Go.Proofs.Ytajcmpafbcpicaa
