/- The reference's table: Who, Note. Conditions: a list in memory; nothing is forgotten. -/
import Derived.Test.YtnngkjjabccglaaTRefT
set_option linter.unusedVariables false
set_option linter.unusedSimpArgs false
namespace Go.Proofs.Ytnngkjjabccglaa
open Go.RowKit

abbrev noteA (x : Rn) : Value := .agg #[u64v x.1, u64v x.2.1, u64v x.2.2]
def RWhoPost (r : Option Rn) (w : World) (e : Ending) (w' : World) : Prop := e = .returned (.tuple #[noteA (r.getD (0, 0, 0)), .bool r.isSome]) ∧ Below w.heap.size w w'
theorem whoR_take {v : Nat} {L : List Rn} {k : Nat} {x : Rn} (hx : L[k]? = some x) (hn : ∀ y ∈ L.take k, y.2.1 ≠ v) (hv : x.2.1 = v) : whoR v L = some x := by
  have h := List.take_append_drop k L
  unfold whoR
  rw [← h, List.find?_append]
  have e : (L.take k).find? (fun x => decide (x.2.1 = v)) = none := List.find?_eq_none.2 fun y hy => by simpa using hn y hy
  rw [e]
  have e2 : L.drop k = x :: L.drop (k + 1) := by
    obtain ⟨h1, h2⟩ := List.getElem?_eq_some_iff.1 hx
    rw [List.drop_eq_getElem_cons h1, h2]
  rw [e2, List.find?_cons_of_pos (by simpa using hv)]
  rfl
theorem whoR_none {v : Nat} {L : List Rn} (hn : ∀ y ∈ L, y.2.1 ≠ v) : whoR v L = none := List.find?_eq_none.2 fun y hy => by simpa using hn y hy
set_option maxRecDepth 100000 in
theorem rwho_any {w : World} {B h : Nat} {L : List Rn} {val : Value} (r : RefIn w B h L val) (v : Nat) : Calls Try.prog 23 #[tp h, u64v v] w (RWhoPost (whoR v L) w) := by
  obtain ⟨A, cp, rfl, hcell⟩ := r.read
  have r' := r.under (bel_new w (.cells #[.int .u64 0, .int .u64 0, .int .u64 0] 24))
  have c0 := r'.blk.cell 0
  have k1 := r'.blk.cell 1
  simp at c0 k1
  have hlen := r.len
  have hblk := Blk.new w 24 #[.int .u64 0, .int .u64 0, .int .u64 0]
  have Hcell : Hid (∀ (j : Nat) (x : Rn), L[j]? = some x → ∃ g, A = some ⟨g, 0, none⟩ ∧ L.length ≤ cp ∧ (w.alloc (.cells #[.int .u64 0, .int .u64 0, .int .u64 0] 24)).cell? ⟨g, j * 3, none⟩ = some (u64v x.1) ∧ (w.alloc (.cells #[.int .u64 0, .int .u64 0, .int .u64 0] 24)).cell? ⟨g, j * 3 + 1, none⟩ = some (u64v x.2.1) ∧ (w.alloc (.cells #[.int .u64 0, .int .u64 0, .int .u64 0] 24)).cell? ⟨g, j * 3 + 2, none⟩ = some (u64v x.2.2)) := Lib.hid fun j x hx => by
    obtain ⟨g, h1, h2, h3, h4, h5⟩ := hcell j x hx
    exact ⟨g, h1, h2, cell_alloc _ h3, cell_alloc _ h4, cell_alloc _ h5⟩
  have hv0 : ¬ (v : Int) < 0 := by omega
  have f0 := hblk.frozen 0
  have f1 := hblk.frozen 1
  have f2 := hblk.frozen 2
  clear hcell r r'
  go_enter Try.func23, Try.ntmps23
  go_wp2_with fail
  go_loop [6] (fun i => ∃ k : Nat, k ≤ L.length ∧ i = .int .i64 (k : Nat) ∧ ∀ y ∈ L.take k, y.2.1 ≠ v) (fun i => L.length - (intOf i).toNat)
  case atStart => exact ⟨0, Nat.zero_le _, rfl, by simp⟩
  case round =>
    obtain ⟨k, hk, rfl, hno⟩ := hrel
    by_cases hlt : k < L.length
    · obtain ⟨x, hx⟩ : ∃ x, L[k]? = some x := ⟨_, List.getElem?_eq_getElem hlt⟩
      obtain ⟨g, rfl, hcp, c1, c2, c3⟩ := Hcell.out _ _ hx
      have hi0 : (0 : Int) ≤ (k : Int) := by omega
      have hi1 : (k : Int) < (L.length : Int) := by omega
      by_cases hxv : x.2.1 = v
      · have d1 : ((x.2.1 : Int) == (v : Int)) = true := by rw [hxv]; simp
        have Hw := Lib.hid (whoR_take hx hno hxv)
        clear hxv hno hx
        go_wp2_with fail
        refine bodyPost_ret (results_cell_tmp2 (cs := [u64v x.1, u64v x.2.1, u64v x.2.2]) rfl rfl (Try.isAgg24 _) (Try.sizeOf24 _) (Blk.new _ _ _).cells) rfl ?_
        rw [Hw.out]
        exact ⟨rfl, bel_new _ _⟩
      · have d1 : ((x.2.1 : Int) == (v : Int)) = false := beq_eq_false_iff_ne.2 (by omega)
        have Hx := Lib.hid (And.intro hx hxv)
        have Hno := Lib.hid hno
        clear hxv hno hx
        go_wp2_with fail
        go_round
        case rel => exact ⟨k + 1, by omega, by go_num, by
          rw [take_snoc Hx.out.1]
          intro y hy
          rcases List.mem_append.1 hy with hy | hy
          · exact Hno.out y hy
          · simp at hy; subst hy; exact Hx.out.2⟩
        case measure => simp [intOf]; omega
    · obtain rfl : k = L.length := by omega
      rw [List.take_length] at hno
      have Hw := Lib.hid (whoR_none hno)
      clear hno
      go_wp2_with fail
      refine bodyPost_ret (results_cell_tmp2 (cs := [.int .u64 0, .int .u64 0, .int .u64 0]) rfl rfl (Try.isAgg24 _) (Try.sizeOf24 _) (Blk.new _ _ _).cells) rfl ?_
      rw [Hw.out]
      exact ⟨rfl, bel_new _ _⟩
end Go.Proofs.Ytnngkjjabccglaa
