/- The reference's table: a list of notes in memory; Newest, Last, At, Who, Note. Conditions: a list in memory; nothing is forgotten. -/
import Derived.Test.YtnngkjjabccglaaTKnown
set_option linter.unusedVariables false
set_option linter.unusedSimpArgs false
namespace Go.Proofs.Ytnngkjjabccglaa
open Go.RowKit

abbrev Rn := Nat × Nat × Nat   -- client, version, id
def rcells : List Rn → List Value
  | [] => []
  | x :: l => u64v x.1 :: u64v x.2.1 :: u64v x.2.2 :: rcells l
theorem rcells_length : ∀ l : List Rn, (rcells l).length = l.length * 3
  | [] => rfl
  | x :: l => by simp [rcells, rcells_length l]; omega
theorem rcells_append : ∀ l k : List Rn, rcells (l ++ k) = rcells l ++ rcells k
  | [], k => rfl
  | x :: l, k => by simp [rcells, rcells_append l k]
theorem rcells_one : ∀ l : List Rn, ∀ u ∈ rcells l, u.oneCell' = true
  | [], u, h => by cases h
  | x :: l, u, h => by
    simp only [rcells, List.mem_cons] at h
    rcases h with rfl | rfl | rfl | h
    · rfl
    · rfl
    · rfl
    · exact rcells_one l u h
theorem rcells_at : ∀ (l : List Rn) (j : Nat) (x : Rn), l[j]? = some x → (rcells l)[j * 3]? = some (u64v x.1) ∧ (rcells l)[j * 3 + 1]? = some (u64v x.2.1) ∧ (rcells l)[j * 3 + 2]? = some (u64v x.2.2)
  | [], j, x, h => by simp at h
  | y :: l, 0, x, h => by simp at h; subst h; simp [rcells]
  | y :: l, j + 1, x, h => by
    obtain ⟨h1, h2, h3⟩ := rcells_at l j x (by simpa using h)
    rw [show (j + 1) * 3 = j * 3 + 1 + 1 + 1 by omega]
    simp only [rcells, List.getElem?_cons_succ]
    exact ⟨h1, h2, h3⟩
structure RefIn (w : World) (B h : Nat) (L : List Rn) (val : Value) : Prop where
  blk : Blk w h 33 #[val, u64v 0]
  row : w.ownsRow B 24 3 val L.length (rcells L)
  base : B ≤ h
  len : L.length ≤ 1000
  nums : ∀ x ∈ L, x.1 < 9223372036854775808 ∧ x.2.1 < 9223372036854775808 ∧ x.2.2 < 9223372036854775808
theorem RefIn.under {w w' : World} {B h : Nat} {L : List Rn} {val : Value} (r : RefIn w B h L val) (hb : Below w.heap.size w w') : RefIn w' B h L val := ⟨r.blk.under hb, own_under r.row hb, r.base, r.len, r.nums⟩
theorem RefIn.drew {w : World} {B h : Nat} {L : List Rn} {val : Value} (r : RefIn w B h L val) (n : Nat) : RefIn (w.drewN n) B h L val := r.under (below_drewN_self w n)
theorem RefIn.read {w : World} {B h : Nat} {L : List Rn} {val : Value} (r : RefIn w B h L val) : ∃ A c, val = .slice A L.length c ∧ ∀ j x, L[j]? = some x → ∃ g, A = some ⟨g, 0, none⟩ ∧ L.length ≤ c ∧ w.cell? ⟨g, j * 3, none⟩ = some (u64v x.1) ∧ w.cell? ⟨g, j * 3 + 1, none⟩ = some (u64v x.2.1) ∧ w.cell? ⟨g, j * 3 + 2, none⟩ = some (u64v x.2.2) := by
  rcases r.row.2 with ⟨rfl, h2⟩ | ⟨g, c, cur, rfl, h3, h4, h5, h6, h7, h8⟩
  · refine ⟨none, 0, by rw [h2], fun j x hx => ?_⟩
    have := (List.getElem?_eq_some_iff.1 hx).1
    omega
  · refine ⟨_, c, rfl, fun j x hx => ⟨g, rfl, h5, ?_⟩⟩
    obtain ⟨e1, e2, e3⟩ := rcells_at L j x hx
    have h1 := World.ownsRow.cells r.row (g := g) rfl _ _ e1
    have h2 := World.ownsRow.cells r.row (g := g) rfl _ _ e2
    have h3 := World.ownsRow.cells r.row (g := g) rfl _ _ e3
    rw [add_lit, Nat.zero_add] at h1 h2 h3
    exact ⟨h1, h2, h3⟩
def newR (L : List Rn) : Nat := (L.getLast?.map (·.2.1)).getD 0
def lastR (c : Nat) (L : List Rn) : Nat := ((L.filter fun x => decide (x.1 = c)).getLast?.map (·.2.2)).getD 0
def atR (c v : Nat) (L : List Rn) : Nat := ((L.filter fun x => decide (x.1 = c ∧ x.2.1 ≤ v)).getLast?.map (·.2.2)).getD 0
def whoR (v : Nat) (L : List Rn) : Option Rn := L.find? fun x => decide (x.2.1 = v)
theorem take_snoc {α : Type} {l : List α} {k : Nat} {x : α} (h : l[k]? = some x) : l.take (k + 1) = l.take k ++ [x] := by
  rw [List.take_add_one, h]; rfl
theorem lastR_snoc (c : Nat) (L : List Rn) (x : Rn) : lastR c (L ++ [x]) = if x.1 = c then x.2.2 else lastR c L := by
  unfold lastR
  rw [List.filter_append]
  by_cases h : x.1 = c
  · simp [h]
  · simp [h]
theorem atR_snoc (c v : Nat) (L : List Rn) (x : Rn) : atR c v (L ++ [x]) = if x.1 = c ∧ x.2.1 ≤ v then x.2.2 else atR c v L := by
  unfold atR
  rw [List.filter_append]
  by_cases h : x.1 = c ∧ x.2.1 ≤ v
  · simp [h]
  · rw [if_neg h]
    have : [x].filter (fun x => decide (x.1 = c ∧ x.2.1 ≤ v)) = [] := by
      rw [List.filter_cons, decide_eq_false h]; rfl
    rw [this, List.append_nil]

theorem rmay_any (n : Nat) (w : World) : Calls Try.prog 19 #[u64v n] w fun e w' => e = .returned (.bool (mayN n)) ∧ w = w' := by
  by_cases h0 : 0 < n
  · have d1 : decide ((0 : Int) < (n : Int)) = true := decide_eq_true (by omega)
    by_cases h1 : n ≤ 4611686018427387903
    · have d2 : decide ((n : Int) ≤ 4611686018427387903) = true := decide_eq_true (by omega)
      have e : mayN n = true := by simp [mayN, h0, h1]
      rw [e]
      clear e
      go_enter Try.func19, Try.ntmps19
      go_wp2_with fail
      go_ret
      exact ⟨rfl, rfl⟩
    · have d2 : decide ((n : Int) ≤ 4611686018427387903) = false := decide_eq_false (by omega)
      have e : mayN n = false := by simp [mayN, h1]
      rw [e]
      clear e
      go_enter Try.func19, Try.ntmps19
      go_wp2_with fail
      go_ret
      exact ⟨rfl, rfl⟩
  · obtain rfl : n = 0 := by omega
    go_enter Try.func19, Try.ntmps19
    go_wp2_with fail
    go_ret
    exact ⟨rfl, rfl⟩
set_option maxRecDepth 100000 in
theorem rnewest_any {w : World} {B h : Nat} {L : List Rn} {val : Value} (r : RefIn w B h L val) : Calls Try.prog 20 #[tp h] w fun e w' => e = .returned (u64v (newR L)) ∧ ∃ q, w' = w.drewN q := by
  obtain ⟨A, cp, rfl, hcell⟩ := r.read
  have c0 := r.blk.cell 0
  simp at c0
  have hlen := r.len
  by_cases h0 : L.length = 0
  · have hL := List.eq_nil_of_length_eq_zero h0
    subst hL
    clear hcell
    go_enter Try.func20, Try.ntmps20
    go_wp2_with fail
    go_ret
    exact ⟨rfl, 0, rfl⟩
  · obtain ⟨x, hx⟩ : ∃ x, L[L.length - 1]? = some x := ⟨_, List.getElem?_eq_getElem (by omega)⟩
    obtain ⟨g, rfl, hcp, _, c2, _⟩ := hcell _ _ hx
    have hn : newR L = x.2.1 := by unfold newR; rw [List.getLast?_eq_getElem?, hx]; rfl
    rw [hn]
    have hz : ((L.length : Int) == 0) = false := beq_eq_false_iff_ne.2 (by omega)
    have hw1 : IntKind.i64.wrap ((L.length : Int) - 1) = ((L.length - 1 : Nat) : Int) := by rw [IntWalk.i64_in _ (by omega)]; omega
    have hw2 : (L.length : Int) - 1 = ((L.length - 1 : Nat) : Int) := by omega
    have hb1 : ((L.length - 1 : Nat) : Int) < (L.length : Int) := by omega
    have hb0 : (0 : Int) ≤ ((L.length - 1 : Nat) : Int) := by omega
    clear hn hx hcell
    go_enter Try.func20, Try.ntmps20
    go_upto_region 3 with fail
    go_quiet (fail)
    go_wp2_with fail
    go_ret
    exact ⟨rfl, nq, rfl⟩
set_option maxRecDepth 100000 in
theorem rlast_any {w : World} {B h : Nat} {L : List Rn} {val : Value} (r : RefIn w B h L val) (c : Nat) : Calls Try.prog 21 #[tp h, u64v c] w fun e w' => e = .returned (u64v (lastR c L)) ∧ w = w' := by
  obtain ⟨A, cp, rfl, hcell⟩ := r.read
  have c0 := r.blk.cell 0
  simp at c0
  have hlen := r.len
  have Hcell := Lib.hid hcell
  clear hcell r
  go_enter Try.func21, Try.ntmps21
  go_wp2_with fail
  go_loop [5, 6] (fun n i => ∃ k : Nat, k ≤ L.length ∧ i = .int .i64 (k : Nat) ∧ n = u64v (lastR c (L.take k))) (fun _ i => L.length - (intOf i).toNat)
  case atStart => exact ⟨0, Nat.zero_le _, rfl, rfl⟩
  case round =>
    obtain ⟨k, hk, rfl, rfl⟩ := hrel
    by_cases hlt : k < L.length
    · obtain ⟨x, hx⟩ : ∃ x, L[k]? = some x := ⟨_, List.getElem?_eq_getElem hlt⟩
      obtain ⟨g, rfl, hcp, c1, c2, c3⟩ := Hcell.out _ _ hx
      have hsn := lastR_snoc c (L.take k) x
      rw [← take_snoc hx] at hsn
      have Hsn := Lib.hid hsn
      have hi0 : (0 : Int) ≤ (k : Int) := by omega
      have hi1 : (k : Int) < (L.length : Int) := by omega
      clear hsn hx
      by_cases hxc : x.1 = c
      · have d1 : ((x.1 : Int) == (c : Int)) = true := by rw [hxc]; simp
        have Hxc := Lib.hid hxc
        clear hxc
        go_wp2_with fail
        go_round
        case rel => exact ⟨k + 1, by omega, by go_num, by rw [Hsn.out, if_pos Hxc.out]⟩
        case measure => simp [intOf]; omega
      · have d1 : ((x.1 : Int) == (c : Int)) = false := beq_eq_false_iff_ne.2 (by omega)
        have Hxc := Lib.hid hxc
        clear hxc
        go_wp2_with fail
        go_round
        case rel => exact ⟨k + 1, by omega, by go_num, by rw [Hsn.out, if_neg Hxc.out]⟩
        case measure => simp [intOf]; omega
    · obtain rfl : k = L.length := by omega
      go_wp2_with fail
      go_ret
      exact ⟨rfl, rfl⟩
set_option maxRecDepth 100000 in
theorem rat_any {w : World} {B h : Nat} {L : List Rn} {val : Value} (r : RefIn w B h L val) (c v : Nat) : Calls Try.prog 22 #[tp h, u64v c, u64v v] w fun e w' => e = .returned (.tuple #[u64v (atR c v L), .bool true]) ∧ w = w' := by
  obtain ⟨A, cp, rfl, hcell⟩ := r.read
  have c0 := r.blk.cell 0
  have k1 := r.blk.cell 1
  simp at c0 k1
  have hlen := r.len
  have Hcell := Lib.hid hcell
  have hv0 : ¬ (v : Int) < 0 := by omega
  clear hcell r
  go_enter Try.func22, Try.ntmps22
  go_wp2_with fail
  go_loop [8, 9] (fun n i => ∃ k : Nat, k ≤ L.length ∧ i = .int .i64 (k : Nat) ∧ n = u64v (atR c v (L.take k))) (fun _ i => L.length - (intOf i).toNat)
  case atStart => exact ⟨0, Nat.zero_le _, rfl, rfl⟩
  case round =>
    obtain ⟨k, hk, rfl, rfl⟩ := hrel
    by_cases hlt : k < L.length
    · obtain ⟨x, hx⟩ : ∃ x, L[k]? = some x := ⟨_, List.getElem?_eq_getElem hlt⟩
      obtain ⟨g, rfl, hcp, c1, c2, c3⟩ := Hcell.out _ _ hx
      have hsn := atR_snoc c v (L.take k) x
      rw [← take_snoc hx] at hsn
      have Hsn := Lib.hid hsn
      have hi0 : (0 : Int) ≤ (k : Int) := by omega
      have hi1 : (k : Int) < (L.length : Int) := by omega
      clear hsn hx
      by_cases hxc : x.1 = c
      · have d1 : ((x.1 : Int) == (c : Int)) = true := by rw [hxc]; simp
        have Hxc := Lib.hid hxc
        clear hxc
        by_cases hxv : x.2.1 ≤ v
        · have d2 : decide (x.2.1 ≤ v) = true := decide_eq_true hxv
          go_wp2_with fail
          go_round
          case rel => exact ⟨k + 1, by omega, by go_num, by rw [Hsn.out, if_pos ⟨Hxc.out, hxv⟩]⟩
          case measure => simp [intOf]; omega
        · have d2 : decide (x.2.1 ≤ v) = false := decide_eq_false hxv
          go_wp2_with fail
          go_round
          case rel => exact ⟨k + 1, by omega, by go_num, by rw [Hsn.out, if_neg (fun h => hxv h.2)]⟩
          case measure => simp [intOf]; omega
      · have d1 : ((x.1 : Int) == (c : Int)) = false := beq_eq_false_iff_ne.2 (by omega)
        have Hxc := Lib.hid hxc
        clear hxc
        go_wp2_with fail
        go_round
        case rel => exact ⟨k + 1, by omega, by go_num, by rw [Hsn.out, if_neg (fun h => Hxc.out h.1)]⟩
        case measure => simp [intOf]; omega
    · obtain rfl : k = L.length := by omega
      go_wp2_with fail
      go_ret2
      exact ⟨rfl, rfl⟩
end Go.Proofs.Ytnngkjjabccglaa
