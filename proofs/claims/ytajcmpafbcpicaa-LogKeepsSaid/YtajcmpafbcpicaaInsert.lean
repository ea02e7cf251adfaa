/- slices.Insert of one entry into a row of the call's own. Conditions: the row's place, and the entry in a block of its own. -/
import Derived.Test.YtajcmpafbcpicaaKnown
import Derived.Test.YtajcmpafbcpicaaCopyK
import Derived.Lib.AppendZerosOnto
import Derived.Lib.Overlaps
import Derived.Deep.RegionHeld3
set_option linter.unusedVariables false
set_option linter.unusedSimpArgs false
namespace Go.Proofs.Ytajcmpafbcpicaa
open Go.RowKit

theorem infoE7 : (Try.prog.info? 44).map (·.size) = some 7 := by kernel_rfl
def InsPost (B : Nat) (v : Value) (n' : Nat) (cells' : List Value) (w : World) (e : Ending) (w' : World) : Prop :=
  ∃ v', e = .returned v' ∧ w'.ownsRow B 44 7 v' n' cells' ∧ w.grownBy w' v.ownBlock ∧ (v'.ownBlock = v.ownBlock ∨ ∃ h, v'.ownBlock = some h ∧ w.heap.size ≤ h)

set_option maxRecDepth 100000 in
set_option maxHeartbeats 4000000 in
theorem insert_end (B n c : Nat) (p : Option Addr) (cells xs : List Value) (hn : (n + 1) * 104 ≤ 140737488355328) (w : World) (ho : w.ownsRow B 44 7 (.slice p n c) n cells) (hc : n ≤ c) (g1 : Nat) (hb1 : Blk w g1 44 xs.toArray) (hx7 : xs.length = 7)
    (h1 : ∀ u ∈ xs, u.oneCell' = true) (hB : B ≤ w.heap.size) :
    Calls Try.prog 153 #[.slice p n c, .int .i64 n, .slice (some ⟨g1, 0, none⟩) 1 1] w (InsPost B (.slice p n c) (n + 1) (cells ++ xs) w) := by
  obtain ⟨i0, z0, hi, hz0, hz1, hz2, hz3⟩ := info_parts2 infoE
  have Ho := Lib.hid ho
  have Hb1 := Lib.hid hb1
  have H1 := Lib.hid h1
  have Hx7 := Lib.hid hx7
  have hpc : p = none → n = 0 ∧ c = 0 := by
    rcases ho.2 with ⟨e, h0⟩ | ⟨g, cap, cur, e, _⟩
    · injection e with e1 e2 e3; exact fun _ => ⟨e2, e3⟩
    · injection e with e1 e2 e3; intro h; rw [h] at e1; cases e1
  have Hpc := Lib.hid hpc
  clear ho hb1 h1 hx7 hpc
  have hne : ((n : Int) == (n : Int)) = true := by simp
  cases p with
  | none =>
    obtain ⟨rfl, rfl⟩ := Hpc.out rfl
    go_enter Try.func153, Try.ntmps153
    go_wp2_with (at_builtin; refine wpList_append_own_at _ rfl _ _ 26 rfl B 44 i0 z0 7 104 Try.underlying26 hi hz0 hz1 hz2 hz3 (by decide) (.slice none 0 0) 0 cells rfl Ho.out ⟨g1, 0, none⟩ 1 1 xs rfl (by rw [Hx7.out]) (World.news_of_block (cs := xs.toArray) Hb1.out) H1.out (by simp only [maxLen]; omega) (by omega) hB ?_; intro v2 w2 hown2 hgr2 _ hat2; have Hown2 := Lib.hid hown2; have Hgr2 := Lib.hid hgr2; have Hat2 := Lib.hid hat2; clear hown2 hgr2 hat2)
    go_ret
    exact ⟨v2, rfl, Hown2.out, Hgr2.out, Hat2.out.imp id fun e => ⟨_, e, Nat.le_refl _⟩⟩
  | some a =>
    go_enter Try.func153, Try.ntmps153
    go_wp2_with (at_builtin; refine wpList_append_own_at _ rfl _ _ 26 rfl B 44 i0 z0 7 104 Try.underlying26 hi hz0 hz1 hz2 hz3 (by decide) (.slice (some a) n c) n cells rfl Ho.out ⟨g1, 0, none⟩ 1 1 xs rfl (by rw [Hx7.out]) (World.news_of_block (cs := xs.toArray) Hb1.out) H1.out (by simp only [maxLen]; omega) (by omega) hB ?_; intro v2 w2 hown2 hgr2 _ hat2; have Hown2 := Lib.hid hown2; have Hgr2 := Lib.hid hgr2; have Hat2 := Lib.hid hat2; clear hown2 hgr2 hat2)
    all_goals go_ret
    all_goals exact ⟨v2, rfl, Hown2.out, Hgr2.out, Hat2.out.imp id fun e => ⟨_, e, Nat.le_refl _⟩⟩

/-- What is known of a row of entries that has cells. -/
structure ERow (B n c g : Nat) (cur cells : List Value) (w : World) : Prop where
  blk : w.heap[g]? = some (.cells cur.toArray 44 (0, 0))
  base : B ≤ g
  cap : n ≤ c
  size : cur.length = c * 7
  tk : cur.take (n * 7) = cells
theorem ERow.own {B n c g : Nat} {cur cells : List Value} {w : World} (h : ERow B n c g cur cells w) (hm : c ≤ maxLen) : w.ownsRow B 44 7 (.slice (some ⟨g, 0, none⟩) n c) n cells := by
  refine ⟨?_, .inr ⟨g, c, cur.toArray, rfl, h.base, h.blk, h.cap, hm, by simpa using h.size, by simpa using h.tk⟩⟩
  rw [← h.tk, List.length_take, h.size]
  have := Nat.mul_le_mul_right 7 h.cap
  omega

theorem insert_lists {cur cells xs Z : List Value} {i n : Nat} (hi : i ≤ n) (htk : cur.take (n * 7) = cells) (hl : n * 7 ≤ cur.length) (hx : xs.length = 7) (hZ : (n + 1) * 7 ≤ Z.length) (hz : Z.take (i * 7) = cells.take (i * 7)) :
    (splice (splice Z (i * 7) xs) (i * 7 + 7) (cells.drop (i * 7))).take ((n + 1) * 7) = cells.take (i * 7) ++ (xs ++ cells.drop (i * 7)) := by
  have hcl : cells.length = n * 7 := by rw [← htk, List.length_take]; omega
  have h1 : (Z.take (i * 7)).length = i * 7 := by rw [List.length_take]; omega
  have h2 : (cells.drop (i * 7)).length = n * 7 - i * 7 := by rw [List.length_drop, hcl]
  have e1 : splice Z (i * 7) xs = cells.take (i * 7) ++ (xs ++ Z.drop (i * 7 + 7)) := by unfold splice; rw [hz, hx]
  have h3 : (cells.take (i * 7)).length = i * 7 := by rw [List.length_take, hcl]; omega
  rw [e1]
  unfold splice
  have e2 : (cells.take (i * 7) ++ (xs ++ Z.drop (i * 7 + 7))).take (i * 7 + 7) = cells.take (i * 7) ++ xs := by
    rw [← List.append_assoc, List.take_append_of_le_length (by rw [List.length_append]; omega), List.take_of_length_le (by rw [List.length_append]; omega)]
  rw [e2]
  rw [← List.append_assoc (cells.take (i * 7) ++ xs), List.take_append_of_le_length (by simp only [List.length_append]; omega), List.take_of_length_le (by simp only [List.length_append]; omega), List.append_assoc]

set_option maxRecDepth 100000 in
set_option maxHeartbeats 4000000 in
theorem insert_grow (B n c i g : Nat) (cur cells xs : List Value) (hn : (n + 1) * 104 ≤ 140737488355328) (hi : i < n) (hfull : c < n + 1) (w : World) (ho : ERow B n c g cur cells w) (h1c : ∀ u ∈ cells, u.oneCell' = true) (g1 : Nat) (hb1 : Blk w g1 44 xs.toArray) (hx7 : xs.length = 7)
    (h1 : ∀ u ∈ xs, u.oneCell' = true) (hB : B ≤ w.heap.size) :
    Calls Try.prog 153 #[.slice (some ⟨g, 0, none⟩) n c, .int .i64 i, .slice (some ⟨g1, 0, none⟩) 1 1] w (InsPost B (.slice (some ⟨g, 0, none⟩) n c) (n + 1) (cells.take (i * 7) ++ (xs ++ cells.drop (i * 7))) w) := by
  obtain ⟨i0, z0, hi0, hz0, hz1, hz2, hz3⟩ := info_parts2 infoE
  have hsz := ho.size
  have hcap := ho.cap
  have hil : i * 7 ≤ cur.length := by rw [hsz]; exact Nat.mul_le_mul_right _ (by omega)
  obtain ⟨C, Z, w1, hrun, hZ, hC, hCm, hZl, hZt, hgr, hw1⟩ := append_zeros_row (P := Try.prog) (tn := 3) (ty := 26) w Try.underlying26 Try.underlying3 hi0 hz0 hz1 hz2 hz3 (by omega) ho.blk (i := i) (k := n + 1 - i) (c := c) (by omega) (by omega) hil (by omega) (by simp only [maxLen]; omega)
  rw [show i + (n + 1 - i) = n + 1 by omega] at hrun hC
  rw [show (((n + 1 - i : Nat)) : Int) = (n : Int) + 1 - (i : Int) by omega] at hrun
  have Hrun := Lib.hid hrun
  have Ho := Lib.hid ho
  have HZ := Lib.hid hZ
  have HZl := Lib.hid hZl
  have HZt := Lib.hid hZt
  have Hgr := Lib.hid hgr
  have Hw1 := Lib.hid hw1
  have Hb1 := Lib.hid hb1
  have H1 := Lib.hid h1
  have H1c := Lib.hid h1c
  have Hx7 := Lib.hid hx7
  have Hsz := Lib.hid hsz
  have hne : ((i : Int) == (n : Int)) = false := by rw [beq_eq_false_iff_ne]; omega
  clear hrun ho hZ hZl hZt hgr hw1 hb1 h1 h1c hx7 hsz
  go_enter Try.func153, Try.ntmps153
  have hd1 : decide ((c : Int) < (n : Int) + 1) = true := decide_eq_true (by omega)
  have hgr1 : w.grownBy w1 (some w.heap.size) := ⟨Hgr.out.os, Hgr.out.tape, Hgr.out.output, Hgr.out.size, fun k hk _ => Hgr.out.block k hk (fun e => by cases e)⟩
  have hsrc1 : ∀ j v, xs[j]? = some v → w1.cell? ((⟨g1, 0, none⟩ : Addr).add j) = some v := by
    have hB1 : Blk w1 g1 44 xs.toArray := (Hgr.out.block g1 Hb1.out.lt (fun e => by cases e)).trans Hb1.out
    exact World.news_of_block (cs := xs.toArray) hB1
  have hmin1 : xs.length = Nat.min 1 (n + 1 - i) * 7 := by rw [Hx7.out, show Nat.min 1 (n + 1 - i) = 1 from Nat.min_eq_left (by omega)]
  have hfit1 : i * 7 + xs.length ≤ Z.length := by rw [Hx7.out, HZl.out]; omega
  have Hgr1 := Lib.hid hgr1
  have Hsrc1 := Lib.hid hsrc1
  have Hmin1 := Lib.hid hmin1
  have Hfit1 := Lib.hid hfit1
  clear hgr1 hsrc1 hmin1 hfit1
  go_upto_region 11 with (first
    | (at_builtin; refine Lib.wpList_append_run _ rfl _ _ 26 3 rfl (.slice (some ⟨g, 0, none⟩) i c) (.int .i64 ((n : Int) + 1 - (i : Int))) rfl rfl _ _ Hrun.out ?_)
    | (refine wpList_copyK rfl (.tmp 43) (.tmp 44) 26 26 rfl 44 7 Try.underlying26 infoE7 w.heap.size (i * 7) ⟨g1, 0, none⟩ (n + 1 - i) (C - i) 1 1 rfl rfl Z 44 HZ.out xs Hmin1.out Hsrc1.out Hfit1.out H1.out w Hgr1.out ?_; intro w2 HZ2 Hgr2))
  have hsrc2 : ∀ j v, (cells.drop (i * 7))[j]? = some v → w2.cell? ((⟨g, i * 7, none⟩ : Addr).add j) = some v := by
    intro j v hj
    rw [add_lit]
    have hglt : g < w.heap.size := (Array.getElem?_eq_some_iff.1 Ho.out.blk).1
    have hb : w2.heap[g]? = some (.cells cur.toArray 44 (0, 0)) := (Hgr2.out.block g hglt (fun e => by injection e with e; omega)).trans Ho.out.blk
    have hc : w2.cell? ⟨g, i * 7 + j, none⟩ = cur[i * 7 + j]? := by simp [World.cell?, hb]
    rw [hc]
    rw [List.getElem?_drop, ← Ho.out.tk] at hj
    have h7 : i * 7 + j < n * 7 := by
      rcases Nat.lt_or_ge (i * 7 + j) (n * 7) with h | h
      · exact h
      · rw [List.getElem?_take, if_neg (by omega)] at hj; cases hj
    rwa [List.getElem?_take, if_pos h7] at hj
  have hcl : cells.length = n * 7 := by rw [← Ho.out.tk, List.length_take, Hsz.out]; have := Nat.mul_le_mul_right 7 hcap; omega
  have hmin2 : (cells.drop (i * 7)).length = Nat.min (n - i) (n - i) * 7 := by
    rw [List.length_drop, hcl, show Nat.min (n - i) (n - i) = n - i from Nat.min_self _]; omega
  have hfit2 : (i + 1) * 7 + (cells.drop (i * 7)).length ≤ (splice Z (i * 7) xs).length := by
    rw [length_splice _ _ _ Hfit1.out, HZl.out, List.length_drop, hcl]; omega
  have h1d : ∀ u ∈ cells.drop (i * 7), u.oneCell' = true := fun u hu => H1c.out u (List.mem_of_mem_drop hu)
  have Hsrc2 := Lib.hid hsrc2
  have Hmin2 := Lib.hid hmin2
  have Hfit2 := Lib.hid hfit2
  have H1d := Lib.hid h1d
  have Hcl := Lib.hid hcl
  clear hsrc2 hmin2 hfit2 h1d hcl
  have hi0 : (0 : Int) ≤ (i : Int) := by omega
  have hw1 : IntKind.i64.wrap ((i : Int) + 1) = (i : Int) + 1 := IntWalk.i64_in _ (by omega)
  have hgr2d : w.grownBy w2.drew (some w.heap.size) := ⟨Hgr2.out.os, Hgr2.out.tape, Hgr2.out.output, Hgr2.out.size, Hgr2.out.block⟩
  have Hgr2d := Lib.hid hgr2d
  have hZ2d : w2.drew.heap[w.heap.size]? = some (.cells (splice Z (i * 7) xs).toArray 44 (0, 0)) := HZ2.out
  have HZ2d := Lib.hid hZ2d
  have hsrc2d : ∀ j v, (cells.drop (i * 7))[j]? = some v → w2.drew.cell? ((⟨g, i * 7, none⟩ : Addr).add j) = some v := fun j v h => Hsrc2.out j v h
  have Hsrc2d := Lib.hid hsrc2d
  clear hgr2d hZ2d hsrc2d
  have hs0 : (0 : Int) ≤ (i : Int) + 1 := by omega
  have hs1 : ((i : Int) + 1).toNat = i + 1 := by omega
  have hs2 : i ≤ n := by omega
  have hs3 : ¬ C = i + 1 := by omega
  have hs4 : ¬ c = i := by omega
  go_region_held3 (fun w' => True) (first | trivial | go_keep) (first | (refine step_copyK rfl (.tmp 50) (.tmp 53) 26 26 rfl 44 7 Try.underlying26 infoE7 w.heap.size ((i + 1) * 7) ⟨g, i * 7, none⟩ (n - i) (C - (i + 1)) (n - i) (c - i) (by rfl) (by rfl) (splice Z (i * 7) xs) 44 HZ2d.out (cells.drop (i * 7)) Hmin2.out Hsrc2d.out Hfit2.out H1d.out w Hgr2d.out ?_; intro w3 HZ3 Hgr3))
  all_goals go_wp2_with fail
  all_goals go_ret
  all_goals
    have hZ3 := HZ3.out
    have hl3 : (splice (splice Z (i * 7) xs) ((i + 1) * 7) (cells.drop (i * 7))).length = C * 7 := by rw [length_splice _ _ _ Hfit2.out, length_splice _ _ _ Hfit1.out, HZl.out]
    have htk3 : (splice (splice Z (i * 7) xs) ((i + 1) * 7) (cells.drop (i * 7))).take ((n + 1) * 7) = cells.take (i * 7) ++ (xs ++ cells.drop (i * 7)) := by
      rw [show (i + 1) * 7 = i * 7 + 7 by omega]
      refine insert_lists (cur := cur) (Nat.le_of_lt hi) Ho.out.tk (by rw [Hsz.out]; exact Nat.mul_le_mul_right _ hcap) Hx7.out (by rw [HZl.out]; exact Nat.mul_le_mul_right _ hC) ?_
      rw [HZt.out, ← Ho.out.tk, List.take_take, Nat.min_eq_left (by omega)]
    have hrow : ERow B (n + 1) C w.heap.size _ _ w3 := ⟨hZ3, hB, hC, hl3, htk3⟩
    exact ⟨_, rfl, hrow.own hCm, ⟨Hgr3.out.os, Hgr3.out.tape, Hgr3.out.output, Hgr3.out.size, fun k hk _ => Hgr3.out.block k hk (fun e => by injection e with e; omega)⟩, .inr ⟨_, rfl, Nat.le_refl _⟩⟩
end Go.Proofs.Ytajcmpafbcpicaa
