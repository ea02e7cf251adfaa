/- What Forget does to one client's notes. Conditions: a table in memory. -/
import Derived.Test.YtnngkjjabccglaaTNote2
import Derived.Test.YtnngkjjabccglaaTRange
set_option linter.unusedVariables false
set_option linter.unusedSimpArgs false
namespace Go.Proofs.Ytnngkjjabccglaa
open Go.RowKit

theorem infoCnt : (Try.prog.info? 60).map (fun i => (i.zero.map fun z => z.cells.size, i.size, i.bytes)) = some (some 2, 2, 16) := by kernel_rfl
theorem clonet_some (ad : Addr) (n c : Nat) (cells : List Value) (w : World) (hl : cells.length = n * 2) (hc : Cells w ad cells) (h1 : ∀ u ∈ cells, u.oneCell' = true) (hn : n * 16 ≤ 140737488355328) :
    Calls Try.prog 24 #[.slice (some ad) n c] w fun e w' => ∃ v, e = .returned v ∧ w'.ownsRow w.heap.size 60 2 v n cells ∧ Below w.heap.size w w' := by
  have q1 := fun (w : World) (a : Option Addr) (n c n' c' : Nat) => Lib.run_eql_slice_nil (P := Try.prog) w _ _ a n c n' c' Try.underlying58
  obtain ⟨i0, z0, hi, hz0, hz1, hz2, hz3⟩ := info_parts2 infoCnt
  go_enter Try.func24, Try.ntmps24
  go_wp2_with (at_builtin; refine wpList_append_own _ rfl _ _ 58 rfl w.heap.size 60 i0 z0 2 16 Try.underlying58 hi hz0 hz1 hz2 hz3 (by decide) _ 0 [] rfl (World.ownsRow_made w #[] 0 (Nat.le_refl _) (by decide) rfl) ad n c cells rfl hl ?c1 h1 ?c2 ?c3 ?c4 ?_)
  case c1 =>
    intro j u hu
    exact cell_alloc _ (hc j u hu)
  case c2 => simp only [maxLen]; omega
  case c3 => omega
  case c4 => simp
  intro v w' ho hg _
  go_wp2
  go_ret
  exact ⟨v, rfl, by simpa using ho, ((Below.refl _ w).alloc (Nat.le_refl _) _).grown hg (by simp) (by simp [Value.ownBlock])⟩
theorem clonet_none (c : Nat) (w : World) :
    Calls Try.prog 24 #[.slice none 0 c] w fun e w' => ∃ v, e = .returned v ∧ w'.ownsRow w.heap.size 60 2 v 0 [] ∧ Below w.heap.size w w' := by
  have q1 := fun (w : World) (a : Option Addr) (n c n' c' : Nat) => Lib.run_eql_slice_nil (P := Try.prog) w _ _ a n c n' c' Try.underlying58
  go_enter Try.func24, Try.ntmps24
  go_wp2_with fail
  go_ret
  exact ⟨_, rfl, World.ownsRow_nil _ _ _ _, Below.refl _ _⟩
theorem clonet_any (A : Option Addr) (n c : Nat) (cells : List Value) (w : World) (hl : cells.length = n * 2) (h0 : A = none → n = 0) (hc : ∀ ad, A = some ad → Cells w ad cells) (h1 : ∀ u ∈ cells, u.oneCell' = true) (hn : n * 16 ≤ 140737488355328) :
    Calls Try.prog 24 #[.slice A n c] w fun e w' => ∃ v, e = .returned v ∧ w'.ownsRow w.heap.size 60 2 v n cells ∧ Below w.heap.size w w' := by
  cases A with
  | some ad => exact clonet_some ad n c cells w hl (hc ad rfl) h1 hn
  | none =>
    obtain rfl := h0 rfl
    have : cells = [] := List.eq_nil_of_length_eq_zero (by simpa using hl)
    subst this
    exact clonet_none c w


def cntLe (v : Nat) (l : List Nt) : Nat := (l.filter fun x => decide (x.1 ≤ v)).length
def trimL (v : Nat) (l : List Nt) : List Nt := l.drop (cntLe v l - 1)
theorem cntLe_le (v : Nat) (l : List Nt) : cntLe v l ≤ l.length := List.length_filter_le _ _
theorem trimL_ne {v : Nat} {l : List Nt} (h : l ≠ []) : trimL v l ≠ [] := fun e => by
  have := cntLe_le v l
  have hp := List.length_pos_iff.2 h
  have := congrArg List.length e
  simp [trimL] at this
  omega
theorem trimL_len {v : Nat} {l : List Nt} : (trimL v l).length = l.length - (cntLe v l - 1) := by simp [trimL]
theorem trimL_rise {v : Nat} {l : List Nt} (h : riseN l) : riseN (trimL v l) := fun i j x y hij hx hy => by
  unfold trimL at hx hy
  rw [List.getElem?_drop] at hx hy
  exact h _ _ x y (by omega) hx hy
theorem trimL_mem {v : Nat} {l : List Nt} {x : Nt} (h : x ∈ trimL v l) : x ∈ l := List.mem_of_mem_drop h
theorem behind_cnt {w : World} {B : Nat} {val : Value} {l : List Nt} (hr : RowN w B val l) (h0 : l ≠ []) (hM : l.length ≤ 1000000) (hs : riseN l) (v : Nat) : Calls Try.prog 25 #[val, u64v v] w fun e w' => e = .returned (.int .i64 (cntLe v l : Nat)) ∧ Below w.heap.size w w' := by
  refine (behind_any hr h0 hM hs v).mono ?_
  rintro e w' ⟨⟨c, rfl, h1, h2, h3⟩, hb⟩
  have : cntLe v l = c := by
    unfold cntLe
    rw [asOf_take h1 h2 h3, List.length_take]
    omega
  rw [this]
  exact ⟨rfl, hb⟩
theorem ncells_drop : ∀ (l : List Nt) (k : Nat), (ncells l).drop (k * 2) = ncells (l.drop k)
  | [], k => by simp [ncells]
  | x :: l, 0 => by simp
  | x :: l, k + 1 => by
    rw [show (k + 1) * 2 = k * 2 + 1 + 1 by omega]
    simp only [ncells, List.drop_succ_cons]
    exact ncells_drop l k
/-- What is cut off of a row, cloned. -/
theorem clone_trim {w : World} {B gb cp : Nat} {l : List Nt} (k : Nat) (hr : RowN w B (.slice (some ⟨gb, 0, none⟩) l.length cp) l) (hk : k ≤ l.length) (hM : l.length ≤ 1000000) (c : Nat) :
    Calls Try.prog 24 #[.slice (some ⟨gb, k * 2, none⟩) (l.drop k).length c] w fun e w' => ∃ v, e = .returned v ∧ RowN w' w.heap.size v (l.drop k) ∧ Below w.heap.size w w' := by
  refine clonet_some ⟨gb, k * 2, none⟩ (l.drop k).length c (ncells (l.drop k)) w (ncells_length _) (fun j u hu => ?_) (ncells_one _) (by simp; omega)
  rw [← ncells_drop, List.getElem?_drop] at hu
  have := World.ownsRow.cells hr (g := gb) rfl _ _ hu
  rw [add_lit] at this ⊢
  rwa [Nat.zero_add] at this
/-- One client's notes are others, in a new row. -/
theorem TabIn.trim {w0 w1 w2 : World} {B g N b1 c : Nat} {m2 : Option Nat} {T : Tab} {row : Nat → Value} {v' : Value} {l l' : List Nt} (h : TabIn w0 B g N T (some b1) m2 row) (hc : lookU c T.notes = some l) (hl0 : l' ≠ []) (hlN : l'.length ≤ N) (hlr : riseN l') (hlm : ∀ x ∈ l', x ∈ l)
    (hb : Below w0.heap.size w0 w1) (ho : RowN w1 w0.heap.size v' l') (hB : B ≤ w0.heap.size) (hg : w1.grownBy w2 (some b1)) (hm : MapB w2 b1 (putU c v' (T.notes.map fun x => (x.1, row x.1)))) :
    TabIn w2 B g N { T with notes := putU c l' T.notes } (some b1) m2 (fun d => if d = c then v' else row d) := by
  have hbw := h.n1 b1 rfl
  have h1 := h.under hb
  have hgb : g ≠ b1 := blk_not_map h.blk hbw.2
  have hof : ∀ d k, lookU d (putU c l' T.notes) = some k → (d = c ∧ k = l') ∨ (d ≠ c ∧ lookU d T.notes = some k) := fun d k hd => by
    rw [lookU_put] at hd
    by_cases hdc : c = d
    · rw [if_pos hdc] at hd
      injection hd with hd
      exact .inl ⟨hdc.symm, hd.symm⟩
    · rw [if_neg hdc] at hd
      exact .inr ⟨fun e => hdc e.symm, hd⟩
  have hnm : ∀ (V : Value) (k : List Nt) (base : Nat), RowN w1 base V k → V.ownBlock ≠ some b1 := fun V k base hr => hr.not_map (h1.n1 b1 rfl).2
  refine ⟨h1.blk.grown hg (by simpa using hgb), h.base, ?_, ?_, (fun e => by cases e), h.z2, h.ne, ?_, ?_, ?_, h.nd2, h.nums, ?_⟩
  · intro b e
    injection e with e
    subst e
    refine ⟨hbw.1, ?_⟩
    simp only
    rw [putU_row row c _ v' T.notes h.nd]
    exact hm
  · intro b e
    have h2 := h1.n2 b e
    exact ⟨h2.1, h2.2.keep (hg.block b h2.2.lt (fun e' => by injection e' with e'; exact h.ne b1 rfl (by rw [e, e'])))⟩
  · intro d k hd
    rcases hof d k hd with ⟨rfl, rfl⟩ | ⟨hdc, hd'⟩
    · rw [if_pos rfl]
      refine ⟨?_, hl0, hlN, hlr⟩
      have := ho.kept hg (.inr (hnm _ _ _ ho))
      refine ⟨this.1, ?_⟩
      rcases this.2 with hn | ⟨gd, cap, cur, e, hbd, rest⟩
      · exact .inl hn
      · exact .inr ⟨gd, cap, cur, e, Nat.le_trans hB hbd, rest⟩
    · rw [if_neg hdc]
      obtain ⟨h2, h3⟩ := h1.rows d k hd'
      exact ⟨h2.kept hg (.inr (hnm _ _ _ h2)), h3⟩
  · intro d d' k k' hd hd' hne
    have hvo : ∀ d k, lookU d T.notes = some k → v'.ownBlock ≠ (row d).ownBlock := fun d k hdk e => by
      obtain ⟨gd, cp, hrd, _⟩ := (h.rows d k hdk).1.read (h.rows d k hdk).2.1
      have hgd : (row d).ownBlock = some gd := by rw [hrd]; rfl
      have e1 := ho.lt gd (e.trans hgd)
      have e2 := (h.rows d k hdk).1.lt gd hgd
      omega
    rcases hof d k hd with ⟨rfl, rfl⟩ | ⟨h2, h2'⟩
    · rcases hof d' k' hd' with ⟨rfl, rfl⟩ | ⟨h3, h3'⟩
      · exact absurd rfl hne
      · rw [if_pos rfl, if_neg h3]; exact hvo d' k' h3'
    · rcases hof d' k' hd' with ⟨rfl, rfl⟩ | ⟨h3, h3'⟩
      · rw [if_neg h2, if_pos rfl]; exact (hvo d k h2').symm
      · rw [if_neg h2, if_neg h3]; exact h.apart d d' k k' h2' h3' hne
  · exact (putU_keys c _ T.notes h.nd).1
  · intro d k hd x hx
    rcases hof d k hd with ⟨rfl, rfl⟩ | ⟨h2, h2'⟩
    · exact h.numsL d l hc x (hlm x hx)
    · exact h.numsL d k h2' x hx
end Go.Proofs.Ytnngkjjabccglaa
