/- What is read of a table: At, Who, Newest; of no table. Conditions: a table in memory. -/
import Derived.Test.YtnngkjjabccglaaTTab
set_option linter.unusedVariables false
set_option linter.unusedSimpArgs false
namespace Go.Proofs.Ytnngkjjabccglaa
open Go.RowKit

/-- behind's closure: is a note's version above? -/
theorem behind1_any {w : World} (n c gb b1 b2 : Nat) (x : Nt) (v i : Nat) (hn : i < n) (hnc : n ≤ c) (hM : n ≤ 1000000) (h1 : w.cell? ⟨b1, 0, none⟩ = some (.slice (some ⟨gb, 0, none⟩) n c)) (h2 : w.cell? ⟨b2, 0, none⟩ = some (u64v v))
    (hx : w.cell? ⟨gb, i * 2, none⟩ = some (u64v x.1)) : Calls Try.prog 32 #[.int .i64 (i : Nat), .pointer (some ⟨b1, 0, none⟩), .pointer (some ⟨b2, 0, none⟩)] w fun e w' => e = .returned (.bool (decide (v < x.1))) ∧ Below w.heap.size w w' := by
  have hi0 : (0 : Int) ≤ (i : Int) := by omega
  have hi1 : (i : Int) < (n : Int) := by omega
  go_enter Try.func32, Try.ntmps32
  go_wp2_with fail
  go_quiet (fail)
  go_wp2_with fail
  go_ret
  refine ⟨?_, below_drewN_self w _⟩
  have : decide ((x.1 : Int) > (v : Int)) = decide (v < x.1) := by by_cases h : v < x.1 <;> simp [h] <;> omega
  first | exact congrArg (fun b => Ending.returned (Value.bool b)) this | (simp [this])

theorem asOf_take {l : List Nt} {v c : Nat} (hc : c ≤ l.length) (h1 : ∀ i x, i < c → l[i]? = some x → x.1 ≤ v) (h2 : ∀ i x, c ≤ i → l[i]? = some x → v < x.1) : l.filter (fun x => decide (x.1 ≤ v)) = l.take c := by
  have e : l = l.take c ++ l.drop c := (List.take_append_drop c l).symm
  have a : (l.take c).filter (fun x => decide (x.1 ≤ v)) = l.take c := List.filter_eq_self.2 fun x hx => by
    obtain ⟨i, hi⟩ := List.getElem?_of_mem hx
    rw [List.getElem?_take] at hi
    split at hi
    · exact decide_eq_true (h1 i x (by assumption) hi)
    · cases hi
  have b : (l.drop c).filter (fun x => decide (x.1 ≤ v)) = [] := List.filter_eq_nil_iff.2 fun x hx => by
    obtain ⟨i, hi⟩ := List.getElem?_of_mem hx
    rw [List.getElem?_drop] at hi
    have := h2 (c + i) x (by omega) hi
    simp
    omega
  have := List.filter_append (p := fun x : Nt => decide (x.1 ≤ v)) (l.take c) (l.drop c)
  rw [a, b, List.append_nil, ← e] at this
  exact this

def BehindPost (l : List Nt) (v : Nat) (w : World) (e : Ending) (w' : World) : Prop := (∃ c : Nat, e = .returned (.int .i64 (c : Nat)) ∧ c ≤ l.length ∧ (∀ i x, i < c → l[i]? = some x → x.1 ≤ v) ∧ ∀ i x, c ≤ i → l[i]? = some x → v < x.1) ∧ Below w.heap.size w w'
set_option maxRecDepth 100000 in
theorem behind_any {w : World} {B : Nat} {val : Value} {l : List Nt} (hr : RowN w B val l) (h0 : l ≠ []) (hM : l.length ≤ 1000000) (hs : riseN l) (v : Nat) : Calls Try.prog 25 #[val, u64v v] w (BehindPost l v w) := by
  obtain ⟨gb, cp, rfl, hcp, hcell⟩ := hr.read h0
  have hb := bel_al (bel_new w (.cells #[.slice (some ⟨gb, 0, none⟩) l.length cp] 58)) (.cells #[u64v v] 22)
  have b1 := (Blk.new w 58 #[.slice (some ⟨gb, 0, none⟩) l.length cp]).alloc (.cells #[u64v v] 22)
  have b2 := Blk.new (w.alloc (.cells #[.slice (some ⟨gb, 0, none⟩) l.length cp] 58)) 22 #[u64v v]
  rw [World.size_alloc] at b2
  have hsr := search_any 32 #[.pointer (some ⟨w.heap.size, 0, none⟩), .pointer (some ⟨w.heap.size + 1, 0, none⟩)] l.length (by omega) (fun i => match l[i]? with | some x => decide (v < x.1) | none => true)
    ((w.alloc (.cells #[.slice (some ⟨gb, 0, none⟩) l.length cp] 58)).alloc (.cells #[u64v v] 22)) (fun args w => by kernel_rfl)
    (fun W i hW hi => by
      obtain ⟨x, hx⟩ : ∃ x, l[i]? = some x := ⟨_, List.getElem?_eq_getElem hi⟩
      have h := behind1_any (w := W) l.length cp gb w.heap.size (w.heap.size + 1) x v i hi hcp hM ((b1.under hW).cell 0) ((b2.under hW).cell 0) (cell_below (bel_tr hb hW) (hcell i x hx).1)
      simp only [hx]
      exact h)
    (fun i j hij hj hp => by
      obtain ⟨x, hx⟩ : ∃ x, l[i]? = some x := ⟨_, List.getElem?_eq_getElem (by omega)⟩
      obtain ⟨y, hy⟩ : ∃ y, l[j]? = some y := ⟨_, List.getElem?_eq_getElem hj⟩
      simp only [hx, decide_eq_true_eq] at hp
      simp only [hy, decide_eq_true_eq]
      rcases Nat.lt_or_ge i j with h | h
      · have := hs i j x y h hx hy; omega
      · have : i = j := by omega
        subst this
        rw [hx] at hy; injection hy with hy; subst hy; exact hp)
  have Hs := Lib.hid hsr
  have Hb := Lib.hid hb
  clear hsr hb b1 b2 hcell hr h0 hs
  go_enter Try.func25, Try.ntmps25
  go_wp2_with (go_at_call 31; refine Hs.out.mono ?_; rintro e w1 ⟨⟨c, rfl, hc1, hc2, hc3⟩, hb1⟩; have Hc2 := Lib.hid hc2; have Hc3 := Lib.hid hc3; have Hb1 := Lib.hid hb1; clear hc2 hc3 hb1)
  go_ret
  refine ⟨⟨c, rfl, hc1, fun i x hi hx => ?_, fun i x hi hx => ?_⟩, bel_tr Hb.out Hb1.out⟩
  · have h := Hc2.out i hi
    simp only [hx, decide_eq_false_iff_not] at h
    omega
  · have hl := (List.getElem?_eq_some_iff.1 hx).1
    have h := Hc3.out i hi hl
    simpa [hx] using h
theorem behind_nil (v : Nat) (w : World) : Calls Try.prog 25 #[.slice none 0 0, u64v v] w fun e w' => e = .returned (.int .i64 0) ∧ Below w.heap.size w w' := by
  have hb := bel_al (bel_new w (.cells #[.slice none 0 0] 58)) (.cells #[u64v v] 22)
  have hsr := search_any 32 #[.pointer (some ⟨w.heap.size, 0, none⟩), .pointer (some ⟨w.heap.size + 1, 0, none⟩)] 0 (by omega) (fun i => true)
    ((w.alloc (.cells #[.slice none 0 0] 58)).alloc (.cells #[u64v v] 22)) (fun args w => by kernel_rfl) (fun W i hW hi => by omega) (fun i j hij hj hp => by omega)
  have Hs := Lib.hid hsr
  have Hb := Lib.hid hb
  clear hsr hb
  go_enter Try.func25, Try.ntmps25
  go_wp2_with (go_at_call 31; refine Hs.out.mono ?_; rintro e w1 ⟨⟨c, rfl, hc1, hc2, hc3⟩, hb1⟩; have Hb1 := Lib.hid hb1; clear hc2 hc3 hb1)
  go_ret
  obtain rfl : c = 0 := by omega
  exact ⟨rfl, bel_tr Hb.out Hb1.out⟩

theorem tnewest_nil (w : World) : Calls Try.prog 15 #[.pointer none] w fun e w' => e = .returned (u64v 0) ∧ w = w' := by
  go_enter Try.func15, Try.ntmps15
  go_wp2_with fail
  go_ret
  exact ⟨rfl, rfl⟩
theorem tnewest_any {w : World} {B g N : Nat} {T : Tab} {m1 m2 : Option Nat} {row : Nat → Value} (h : TabIn w B g N T m1 m2 row) : Calls Try.prog 15 #[.pointer (some ⟨g, 0, none⟩)] w fun e w' => e = .returned (u64v T.newest) ∧ w = w' := by
  have c3 := h.blk.cell 3
  simp at c3
  go_enter Try.func15, Try.ntmps15
  go_wp2_with fail
  go_ret
  exact ⟨rfl, rfl⟩
def AtPost (n : Nat) (b : Bool) (w : World) (e : Ending) (w' : World) : Prop := e = .returned (.tuple #[u64v n, .bool b]) ∧ Below w.heap.size w w'
theorem tat_nil (c v : Nat) (w : World) : Calls Try.prog 14 #[.pointer none, u64v c, u64v v] w (AtPost 0 false w) := by
  go_enter Try.func14, Try.ntmps14
  go_wp2_with fail
  go_ret2
  exact ⟨rfl, Below.refl _ _⟩
set_option maxRecDepth 100000 in
theorem tat_any {w : World} {B g N : Nat} {T : Tab} {m1 m2 : Option Nat} {row : Nat → Value} (h : TabIn w B g N T m1 m2 row) (c v : Nat) : Calls Try.prog 14 #[.pointer (some ⟨g, 0, none⟩), u64v c, u64v v] w (AtPost (T.at_ c v).1 (T.at_ c v).2 w) := by
  have hl := h.look1 c
  have c0 := h.blk.cell 0
  have c2 := h.blk.cell 2
  simp at c0 c2
  by_cases hf : v < T.floor
  · have hat : T.at_ c v = (0, false) := by simp [Tab.at_, hf]
    rw [hat]
    have hf' : (v : Int) < (T.floor : Int) := by omega
    clear hat
    go_enter Try.func14, Try.ntmps14
    go_wp2_with fail
    go_ret2
    exact ⟨rfl, Below.refl _ _⟩
  · have hf' : ¬ (v : Int) < (T.floor : Int) := by omega
    have hat : T.at_ c v = (asOf (T.of c) v, true) := by simp [Tab.at_, hf]
    rw [hat]
    clear hat
    cases hc : lookU c T.notes with
    | none =>
      have hv : rowV T row c = .slice none 0 0 := by simp [rowV, hc]
      have ht : asOf (T.of c) v = 0 := by simp [Tab.of, hc, asOf]
      rw [hv] at hl
      rw [ht]
      have Hb := Lib.hid (behind_nil v w)
      clear hc hv ht
      go_enter Try.func14, Try.ntmps14
      go_wp2_with (go_at_call 25; refine Hb.out.mono ?_; rintro e w1 ⟨rfl, hb1⟩; have Hb1 := Lib.hid hb1; clear hb1)
      go_ret2
      exact ⟨rfl, Hb1.out⟩
    | some l =>
      obtain ⟨hr, h0, hN, hs⟩ := h.rows c l hc
      have hnn := h.nums.2.2
      have Hb := Lib.hid (behind_any hr h0 (by omega) hs v)
      obtain ⟨gb, cp, hv, hcp, hcell⟩ := hr.read h0
      have hv' : rowV T row c = .slice (some ⟨gb, 0, none⟩) l.length cp := by simp [rowV, hc, hv]
      have ht : T.of c = l := by simp [Tab.of, hc]
      rw [hv'] at hl
      rw [hv] at Hb
      rw [ht]
      have Hcell := Lib.hid hcell
      have hlen : l.length ≤ 1000000 := by omega
      clear hc hv hv' ht hr h0 hcell hs hN hnn
      go_enter Try.func14, Try.ntmps14
      go_upto_region 5 with (go_at_call 25; refine Hb.out.mono ?_; rintro e w1 ⟨⟨k, rfl, hk1, hk2, hk3⟩, hb1⟩; have Hk2 := Lib.hid hk2; have Hk3 := Lib.hid hk3; have Hb1 := Lib.hid hb1; clear hk2 hk3 hb1)
      have hft := asOf_take hk1 Hk2.out Hk3.out
      by_cases hk : k = 0
      · subst hk
        have ha : asOf l v = 0 := by simp [asOf, hft]
        have Ha := Lib.hid ha
        clear ha hft
        go_wp2_with fail
        go_ret2
        rw [Ha.out]
        exact ⟨rfl, Hb1.out⟩
      · obtain ⟨x, hx⟩ : ∃ x, l[k - 1]? = some x := ⟨_, List.getElem?_eq_getElem (by omega)⟩
        have ha : asOf l v = x.2 := by
          unfold asOf
          rw [hft, List.getLast?_eq_getElem?, List.getElem?_take, List.length_take, Nat.min_eq_left hk1, if_pos (by omega), hx]; rfl
        have Ha := Lib.hid ha
        have hc1 := cell_below Hb1.out (Hcell.out _ _ hx).2
        have hw1 : IntKind.i64.wrap ((k : Int) - 1) = ((k - 1 : Nat) : Int) := by rw [IntWalk.i64_in _ (by have := (List.getElem?_eq_some_iff.1 hx).1; omega)]; omega
        have hw2 : (k : Int) - 1 = ((k - 1 : Nat) : Int) := by omega
        have hb1 : ((k - 1 : Nat) : Int) < (l.length : Int) := by omega
        have hb0 : (0 : Int) ≤ ((k - 1 : Nat) : Int) := by omega
        have hz : ((k : Int) == 0) = false := beq_eq_false_iff_ne.2 (by omega)
        have hz' : ((k : Int) = 0) = False := eq_false (by omega)
        clear ha hft hx
        go_wp2_with fail
        go_ret2
        rw [Ha.out]
        exact ⟨rfl, Hb1.out⟩
def WhoPost (r : Nat × Nat × Bool) (w : World) (e : Ending) (w' : World) : Prop := e = .returned (.tuple #[u64v r.1, u64v r.2.1, .bool r.2.2]) ∧ Below w.heap.size w w'
theorem twho_nil (v : Nat) (w : World) : Calls Try.prog 11 #[.pointer none, u64v v] w (WhoPost (0, 0, false) w) := by
  go_enter Try.func11, Try.ntmps11
  go_wp2_with fail
  go_ret3
  exact ⟨rfl, Below.refl _ _⟩
set_option maxRecDepth 100000 in
theorem twho_any {w : World} {B g N : Nat} {T : Tab} {m1 m2 : Option Nat} {row : Nat → Value} (h : TabIn w B g N T m1 m2 row) (v : Nat) : Calls Try.prog 11 #[.pointer (some ⟨g, 0, none⟩), u64v v] w (WhoPost (T.whoOf v) w) := by
  have hl := h.look2 v
  have c1 := h.blk.cell 1
  have c2 := h.blk.cell 2
  simp at c1 c2
  by_cases hf : v < T.floor
  · have hat : T.whoOf v = (0, 0, false) := by simp [Tab.whoOf, hf]
    rw [hat]
    have hf' : (v : Int) < (T.floor : Int) := by omega
    clear hat
    go_enter Try.func11, Try.ntmps11
    go_wp2_with fail
    go_ret3
    exact ⟨rfl, Below.refl _ _⟩
  · have hf' : ¬ (v : Int) < (T.floor : Int) := by omega
    cases hc : lookU v T.who with
    | none =>
      have hat : T.whoOf v = (0, 0, false) := by simp [Tab.whoOf, hf, hc]
      rw [hat]
      rw [hc] at hl
      simp only [Option.getD_none, Option.isSome_none] at hl
      clear hat hc
      go_enter Try.func11, Try.ntmps11
      go_wp2_with fail
      go_ret3
      exact ⟨rfl, Below.refl _ _⟩
    | some c =>
      have hat : T.whoOf v = (c, (T.at_ c v).1, true) := by simp [Tab.whoOf, hf, hc]
      rw [hat]
      rw [hc] at hl
      simp only [Option.getD_some, Option.isSome_some] at hl
      have Ha := Lib.hid (tat_any h c v)
      clear hat hc
      go_enter Try.func11, Try.ntmps11
      go_wp2_with (go_at_call 14; refine Ha.out.mono ?_; rintro e w1 ⟨rfl, hb1⟩; have Hb1 := Lib.hid hb1; clear hb1)
      go_ret3
      exact ⟨rfl, Hb1.out⟩
end Go.Proofs.Ytnngkjjabccglaa
