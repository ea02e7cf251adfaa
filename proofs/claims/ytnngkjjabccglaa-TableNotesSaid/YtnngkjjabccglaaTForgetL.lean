/- Plain laws on what Forget leaves. No program in sight. No conditions. -/
import Derived.Test.YtnngkjjabccglaaTForget
set_option linter.unusedVariables false
set_option linter.unusedSimpArgs false
namespace Go.Proofs.Ytnngkjjabccglaa
open Go.RowKit

theorem pair_fst {α γ : Type} (f : α → γ) : ∀ {l : List α}, (l.map f).Nodup → ∀ {x y : α}, x ∈ l → y ∈ l → f x = f y → x = y
  | [], _, x, y, h, _, _ => by cases h
  | z :: l, hn, x, y, hx, hy, he => by
    simp only [List.map_cons, List.nodup_cons] at hn
    rcases List.mem_cons.1 hx with h1 | h1
    · rcases List.mem_cons.1 hy with h2 | h2
      · rw [h1, h2]
      · exact absurd (by rw [← h1, he]; exact List.mem_map_of_mem (f := f) h2) hn.1
    · rcases List.mem_cons.1 hy with h2 | h2
      · exact absurd (by rw [← h2, ← he]; exact List.mem_map_of_mem (f := f) h1) hn.1
      · exact pair_fst f hn.2 h1 h2 he
theorem u64v_inj {a b : Nat} (h : u64v a = u64v b) : a = b := by
  injection h with _ h
  omega
theorem lookU_mem {α : Type} {c : Nat} {v : α} : ∀ {l : List (Nat × α)}, lookU c l = some v → (c, v) ∈ l
  | [], h => by simp [lookU] at h
  | (j, u) :: l, h => by
    unfold lookU at h
    by_cases hj : j = c
    · rw [if_pos hj] at h; injection h with h; subst hj; subst h; exact List.mem_cons_self
    · rw [if_neg hj] at h; exact List.mem_cons_of_mem _ (lookU_mem h)
theorem mem_lookU {α : Type} {c : Nat} {v : α} : ∀ {l : List (Nat × α)}, (l.map (·.1)).Nodup → (c, v) ∈ l → lookU c l = some v
  | [], _, h => by cases h
  | (j, u) :: l, hn, h => by
    simp only [List.map_cons, List.nodup_cons] at hn
    unfold lookU
    rcases List.mem_cons.1 h with e | h
    · injection e with e1 e2; subst e1; subst e2; rw [if_pos rfl]
    · have : j ≠ c := fun e => hn.1 (e ▸ List.mem_map_of_mem (f := fun x : Nat × α => x.1) h)
      rw [if_neg this]; exact mem_lookU hn.2 h
theorem putU_map {α β : Type} (f : Nat × α → β) (c : Nat) (y : β) : ∀ {l : List (Nat × α)}, (l.map (·.1)).Nodup → c ∈ l.map (·.1) → putU c y (l.map fun x => (x.1, f x)) = l.map fun x => (x.1, if x.1 = c then y else f x)
  | [], _, h => by cases h
  | (j, u) :: l, hn, h => by
    simp only [List.map_cons, List.nodup_cons] at hn
    simp only [List.map_cons]
    unfold putU
    by_cases hj : j = c
    · subst hj
      simp only [if_true]
      congr 1
      refine List.map_congr_left fun x hx => ?_
      have : x.1 ≠ j := fun e => hn.1 (e ▸ List.mem_map_of_mem (f := fun x : Nat × α => x.1) hx)
      rw [if_neg this]
    · simp only [if_neg hj]
      rw [putU_map f c y hn.2 (by simpa [Ne.symm hj] using h)]

open Classical in
/-- The clients' notes when the entries of 'seen' are over. -/
noncomputable def notesS (kb : List (Value × Nat)) (seen : Array Nat) (v : Nat) (l : List (Nat × List Nt)) : List (Nat × List Nt) := l.map fun x => (x.1, if ∃ n, (u64v x.1, n) ∈ kb ∧ n ∈ seen.toList then trimL v x.2 else x.2)
def kbOf (es : Array MapEntry) : List (Value × Nat) := es.toList.map fun e => (e.key, e.born)
def unseen (kb : List (Value × Nat)) (seen : Array Nat) : Nat := (kb.filter fun x => !seen.contains x.2).length
theorem notesS_keys (kb : List (Value × Nat)) (seen : Array Nat) (v : Nat) (l : List (Nat × List Nt)) : (notesS kb seen v l).map (·.1) = l.map (·.1) := by simp [notesS]
theorem notesS_none (kb : List (Value × Nat)) (v : Nat) (l : List (Nat × List Nt)) : notesS kb #[] v l = l := by
  unfold notesS
  refine (List.map_congr_left fun x _ => ?_).trans (List.map_id _)
  rw [if_neg (by rintro ⟨n, _, h⟩; simp at h)]; rfl
theorem notesS_look {kb : List (Value × Nat)} {seen : Array Nat} {v c n : Nat} {l : List (Nat × List Nt)} (hnd : (l.map (·.1)).Nodup) (hkn : (kb.map (·.1)).Nodup) (hm : (u64v c, n) ∈ kb) (hs : n ∉ seen.toList) {k : List Nt} (h : lookU c (notesS kb seen v l) = some k) : lookU c l = some k := by
  have h1 := lookU_mem h
  unfold notesS at h1
  obtain ⟨x, hx, he⟩ := List.mem_map.1 h1
  injection he with e1 e2
  rw [if_neg] at e2
  · rw [← e2, ← e1]; exact mem_lookU hnd hx
  · rintro ⟨m, hm1, hm2⟩
    rw [e1] at hm1
    have := pair_fst (fun x : Value × Nat => x.1) hkn hm hm1 rfl
    injection this with _ e
    exact hs (e ▸ hm2)
open Classical in
theorem notesS_push {kb : List (Value × Nat)} {seen : Array Nat} {v c n : Nat} {l : List (Nat × List Nt)} {k : List Nt} (hnd : (l.map (·.1)).Nodup) (hkn : (kb.map (·.1)).Nodup) (hbn : (kb.map (·.2)).Nodup) (hm : (u64v c, n) ∈ kb) (h : lookU c l = some k) :
    notesS kb (seen.push n) v l = putU c (trimL v k) (notesS kb seen v l) := by
  have hck : c ∈ l.map (·.1) := List.mem_map_of_mem (f := fun x : Nat × List Nt => x.1) (lookU_mem h)
  unfold notesS
  rw [putU_map (fun x : Nat × List Nt => if ∃ n, (u64v x.1, n) ∈ kb ∧ n ∈ seen.toList then trimL v x.2 else x.2) c (trimL v k) hnd hck]
  refine List.map_congr_left fun x hx => ?_
  by_cases hxc : x.1 = c
  · rw [if_pos hxc, if_pos ⟨n, by rw [hxc]; exact hm, by simp⟩]
    have : x.2 = k := by
      have := pair_fst (fun x : Nat × List Nt => x.1) hnd hx (lookU_mem h) hxc
      rw [this]
    rw [this]
  · rw [if_neg hxc]
    have hiff : (∃ m, (u64v x.1, m) ∈ kb ∧ m ∈ (seen.push n).toList) ↔ ∃ m, (u64v x.1, m) ∈ kb ∧ m ∈ seen.toList := by
      constructor
      · rintro ⟨m, h1, h2⟩
        simp only [Array.toList_push, List.mem_append, List.mem_singleton] at h2
        rcases h2 with h2 | rfl
        · exact ⟨m, h1, h2⟩
        · have := pair_fst (fun x : Value × Nat => x.2) hbn h1 hm rfl
          injection this with e _
          exact absurd (u64v_inj e) hxc
      · rintro ⟨m, h1, h2⟩
        exact ⟨m, h1, by simp [h2]⟩
    by_cases hq : ∃ m, (u64v x.1, m) ∈ kb ∧ m ∈ seen.toList
    · rw [if_pos hq, if_pos (hiff.2 hq)]
    · rw [if_neg hq, if_neg (fun h => hq (hiff.1 h))]
theorem unseen_push {kb : List (Value × Nat)} {seen : Array Nat} {n : Nat} {x : Value} (hm : (x, n) ∈ kb) (hs : n ∉ seen.toList) : unseen kb (seen.push n) < unseen kb seen := by
  unfold unseen
  have key : ∀ l : List (Value × Nat), (l.filter fun x => !(seen.push n).contains x.2).length ≤ (l.filter fun x => !seen.contains x.2).length ∧ ((x, n) ∈ l → (l.filter fun x => !(seen.push n).contains x.2).length < (l.filter fun x => !seen.contains x.2).length) := by
    intro l
    induction l with
    | nil => exact ⟨Nat.le_refl _, fun h => by cases h⟩
    | cons y l ih =>
      have hyc : (seen.push n).contains y.2 = (seen.contains y.2 || decide (y.2 = n)) := by
        rw [Bool.eq_iff_iff]
        simp
      simp only [List.filter_cons, hyc]
      cases h1 : seen.contains y.2 with
      | true =>
        simp only [Bool.true_or, Bool.not_true, Bool.false_eq_true, if_false]
        refine ⟨ih.1, fun h => ih.2 ?_⟩
        rcases List.mem_cons.1 h with e | h
        · rw [← e] at h1; exact absurd (by simpa using h1) hs
        · exact h
      | false =>
        by_cases h2 : y.2 = n
        · simp only [h2, decide_true, Bool.or_true, Bool.not_true, Bool.false_eq_true, if_false, Bool.false_or, Bool.not_false, if_true, List.length_cons]
          exact ⟨by have := ih.1; omega, fun _ => by have := ih.1; omega⟩
        · simp only [h2, decide_false, Bool.or_false, Bool.not_false, if_true, List.length_cons]
          refine ⟨by have := ih.1; omega, fun h => ?_⟩
          rcases List.mem_cons.1 h with e | h
          · exact absurd (by rw [← e]) h2
          · have := ih.2 h; omega
  exact (key kb).2 hm
end Go.Proofs.Ytnngkjjabccglaa
