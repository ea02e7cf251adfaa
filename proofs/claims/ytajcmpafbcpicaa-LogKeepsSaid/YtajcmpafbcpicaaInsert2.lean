/- slices.Insert of one entry where there is room; then on whatever road. Conditions: as Insert. -/
import Derived.Test.YtajcmpafbcpicaaInsert
import Derived.Laws.Externs
set_option linter.unusedVariables false
set_option linter.unusedSimpArgs false
namespace Go.Proofs.Ytajcmpafbcpicaa
open Go.RowKit

theorem overlapsE_apart {w : World} {g g1 : Nat} {cur xs : List Value} {o lb cb : Nat} (hg : w.heap[g]? = some (.cells cur.toArray 44 (0, 0))) (h1 : w.heap[g1]? = some (.cells xs.toArray 44 (0, 0))) (hne : g1 ≠ g) (hk : cur.length ≠ 0) :
    (callFunc 171 #[.slice (some ⟨g1, 0, none⟩) 1 1, .slice (some ⟨g, o, none⟩) lb cb]).run Try.prog w = .ok (.value (.bool false)) w := by
  rw [run_callFunc_extern Try.func171 (by kernel_rfl) (by kernel_rfl) (by kernel_rfl) (e := Extern.SlicesOverlaps.overlaps #[26, 26] #[4]) (by kernel_rfl),
    Lib.run_overlaps_apart w 26 4 44 Try.underlying26 7 Try.sizeOf44 ⟨g1, 0, none⟩ ⟨g, o, none⟩ 1 1 lb cb hne 44 44 xs.length cur.length (by simp [World.shape?, h1]) (by simp [World.shape?, hg]) hk (by simp [World.frozen?, h1]) (by simp [World.frozen?, h1])]
  rfl

theorem insert_lists2 {cur cells xs : List Value} {i n : Nat} (hi : i < n) (htk : cur.take (n * 7) = cells) (hl : (n + 1) * 7 ≤ cur.length) (hx : xs.length = 7) :
    (splice (splice cur ((i + 1) * 7) (cells.drop (i * 7))) (i * 7) xs).take ((n + 1) * 7) = cells.take (i * 7) ++ (xs ++ cells.drop (i * 7)) := by
  have hcl : cells.length = n * 7 := by rw [← htk, List.length_take]; omega
  have h2 : (cells.drop (i * 7)).length = n * 7 - i * 7 := by rw [List.length_drop, hcl]
  have hct : cells.take (i * 7) = cur.take (i * 7) := by rw [← htk, List.take_take, Nat.min_eq_left (by omega)]
  have hlt1 : (cur.take ((i + 1) * 7)).length = (i + 1) * 7 := by rw [List.length_take]; omega
  have e1 : splice cur ((i + 1) * 7) (cells.drop (i * 7)) = cur.take ((i + 1) * 7) ++ (cells.drop (i * 7) ++ cur.drop ((n + 1) * 7)) := by
    unfold splice
    rw [h2, show (i + 1) * 7 + (n * 7 - i * 7) = (n + 1) * 7 by omega]
  rw [e1]
  unfold splice
  rw [hx]
  have e2 : (cur.take ((i + 1) * 7) ++ (cells.drop (i * 7) ++ cur.drop ((n + 1) * 7))).take (i * 7) = cells.take (i * 7) := by
    rw [List.take_append_of_le_length (by omega), List.take_take, Nat.min_eq_left (by omega), hct]
  have e3 : (cur.take ((i + 1) * 7) ++ (cells.drop (i * 7) ++ cur.drop ((n + 1) * 7))).drop (i * 7 + 7) = cells.drop (i * 7) ++ cur.drop ((n + 1) * 7) := by
    rw [show i * 7 + 7 = (i + 1) * 7 by omega]
    have := List.drop_left (l₁ := cur.take ((i + 1) * 7)) (l₂ := cells.drop (i * 7) ++ cur.drop ((n + 1) * 7))
    rwa [hlt1] at this
  rw [e2, e3]
  have hlt : (cells.take (i * 7)).length = i * 7 := by rw [List.length_take, hcl]; omega
  rw [← List.append_assoc xs, ← List.append_assoc, List.take_append_of_le_length (by simp only [List.length_append]; omega), List.take_of_length_le (by simp only [List.length_append]; omega)]

set_option maxRecDepth 100000 in
set_option maxHeartbeats 4000000 in
theorem insert_room (B n c i g : Nat) (cur cells xs : List Value) (hn : (n + 1) * 104 ≤ 140737488355328) (hi : i < n) (hroom : n + 1 ≤ c) (hcm : c ≤ maxLen) (w : World) (ho : ERow B n c g cur cells w) (h1c : ∀ u ∈ cells, u.oneCell' = true) (g1 : Nat) (hb1 : Blk w g1 44 xs.toArray) (hne1 : g1 ≠ g) (hx7 : xs.length = 7)
    (h1 : ∀ u ∈ xs, u.oneCell' = true) :
    Calls Try.prog 153 #[.slice (some ⟨g, 0, none⟩) n c, .int .i64 i, .slice (some ⟨g1, 0, none⟩) 1 1] w (InsPost B (.slice (some ⟨g, 0, none⟩) n c) (n + 1) (cells.take (i * 7) ++ (xs ++ cells.drop (i * 7))) w) := by
  have hsz := ho.size
  have hcap := ho.cap
  have hcl : cells.length = n * 7 := by rw [← ho.tk, List.length_take, hsz]; have := Nat.mul_le_mul_right 7 hcap; omega
  have hcc : c < 9223372036854775807 ∨ True := .inr trivial
  have hov := fun (lb cb : Nat) => overlapsE_apart (w := w) (o := (i + 1) * 7) (lb := lb) (cb := cb) ho.blk hb1 hne1 (by rw [hsz]; omega)
  have hsrcA : ∀ j v, (cells.drop (i * 7))[j]? = some v → w.drew.cell? ((⟨g, i * 7, none⟩ : Addr).add j) = some v := by
    intro j v hj
    rw [add_lit]
    have hc : w.drew.cell? ⟨g, i * 7 + j, none⟩ = cur[i * 7 + j]? := by
      have h1 : w.cell? ⟨g, i * 7 + j, none⟩ = cur[i * 7 + j]? := by simp [World.cell?, ho.blk]
      exact h1
    rw [hc]
    rw [List.getElem?_drop, ← ho.tk] at hj
    have h7 : i * 7 + j < n * 7 := by
      rcases Nat.lt_or_ge (i * 7 + j) (n * 7) with h | h
      · exact h
      · rw [List.getElem?_take, if_neg (by omega)] at hj; cases hj
    rwa [List.getElem?_take, if_pos h7] at hj
  have hminA : (cells.drop (i * 7)).length = Nat.min (n + 1 - i) (n - i) * 7 := by
    rw [List.length_drop, hcl, show Nat.min (n + 1 - i) (n - i) = n - i from Nat.min_eq_right (by omega)]; omega
  have hfitA : (i + 1) * 7 + (cells.drop (i * 7)).length ≤ cur.length := by rw [List.length_drop, hcl, hsz]; omega
  have h1d : ∀ u ∈ cells.drop (i * 7), u.oneCell' = true := fun u hu => h1c u (List.mem_of_mem_drop hu)
  have hgA : w.grownBy w.drew (some g) := ⟨rfl, rfl, rfl, Nat.le_refl _, fun _ _ _ => rfl⟩
  have hZA : w.drew.heap[g]? = some (.cells cur.toArray 44 (0, 0)) := ho.blk
  have hminB : xs.length = Nat.min 1 (n + 1 - i) * 7 := by rw [hx7, show Nat.min 1 (n + 1 - i) = 1 from Nat.min_eq_left (by omega)]
  have hfitB : i * 7 + xs.length ≤ (splice cur ((i + 1) * 7) (cells.drop (i * 7))).length := by rw [length_splice _ _ _ hfitA, hx7, hsz]; omega
  have Ho := Lib.hid ho
  have Hov := Lib.hid hov
  have HsrcA := Lib.hid hsrcA
  have HminA := Lib.hid hminA
  have HfitA := Lib.hid hfitA
  have H1d := Lib.hid h1d
  have HgA := Lib.hid hgA
  have HZA := Lib.hid hZA
  have HminB := Lib.hid hminB
  have HfitB := Lib.hid hfitB
  have Hb1 := Lib.hid hb1
  have Hne1 := Lib.hid hne1
  have H1 := Lib.hid h1
  have Hx7 := Lib.hid hx7
  have Hsz := Lib.hid hsz
  clear hov hsrcA hminA hfitA h1d hgA hZA hminB hfitB hb1 hne1 h1 hx7 hsz hcl h1c ho hcc
  have hneq : ((i : Int) == (n : Int)) = false := by rw [beq_eq_false_iff_ne]; omega
  have hd1 : decide ((c : Int) < (n : Int) + 1) = false := decide_eq_false (by omega)
  have hi0 : (0 : Int) ≤ (i : Int) := by omega
  have hw1 : IntKind.i64.wrap ((i : Int) + 1) = (i : Int) + 1 := IntWalk.i64_in _ (by omega)
  have hs0 : (0 : Int) ≤ (i : Int) + 1 := by omega
  have hs1 : ((i : Int) + 1).toNat = i + 1 := by omega
  have hs2 : i ≤ n := by omega
  have hs3 : ¬ c = i + 1 := by omega
  have hs4 : ¬ c = i := by omega
  have hs5 : n + 1 ≤ c := hroom
  have hs6 : i ≤ n + 1 := by omega
  have hs7 : (i : Int) ≤ (n : Int) + 1 := by omega
  go_enter Try.func153, Try.ntmps153
  go_upto_region 15 with (simp only [Hov.out])
  go_region_held3 (fun w' => True) (first | trivial | go_keep) (first | (refine step_copyK rfl (.tmp 73) (.tmp 76) 26 26 rfl 44 7 Try.underlying26 infoE7 g ((i + 1) * 7) ⟨g, i * 7, none⟩ (n - i) (c - (i + 1)) (n + 1 - i) (c - i) (by rfl) (by rfl) cur 44 HZA.out (cells.drop (i * 7)) HminA.out HsrcA.out HfitA.out H1d.out w HgA.out ?_; intro w2 HZ2 Hgr2))
  have hsrc2 : ∀ j v, xs[j]? = some v → w2.cell? ((⟨g1, 0, none⟩ : Addr).add j) = some v := by
    have hB1 : Blk w2 g1 44 xs.toArray := (Hgr2.out.block g1 Hb1.out.lt (fun e => Hne1.out (by injection e))).trans Hb1.out
    exact World.news_of_block (cs := xs.toArray) hB1
  have Hsrc2 := Lib.hid hsrc2
  clear hsrc2
  go_wp2_with (refine wpList_copyK rfl (.tmp 80) (.tmp 81) 26 26 rfl 44 7 Try.underlying26 infoE7 g (i * 7) ⟨g1, 0, none⟩ (n + 1 - i) (c - i) 1 1 rfl rfl (splice cur ((i + 1) * 7) (cells.drop (i * 7))) 44 HZ2.out xs HminB.out Hsrc2.out HfitB.out H1.out w Hgr2.out ?_; intro w3 HZ3 Hgr3)
  go_ret
  have hl3 : (splice (splice cur ((i + 1) * 7) (cells.drop (i * 7))) (i * 7) xs).length = c * 7 := by rw [length_splice _ _ _ HfitB.out, length_splice _ _ _ HfitA.out, Hsz.out]
  have htk3 := insert_lists2 hi Ho.out.tk (by rw [Hsz.out]; exact Nat.mul_le_mul_right _ hroom) Hx7.out
  have hrow : ERow B (n + 1) c g _ _ w3 := ⟨HZ3.out, Ho.out.base, hroom, hl3, htk3⟩
  exact ⟨_, rfl, hrow.own hcm, Hgr3.out, .inl rfl⟩

theorem insert_any (B n c i : Nat) (p : Option Addr) (cells xs : List Value) (hn : (n + 1) * 104 ≤ 140737488355328) (hi : i ≤ n) (w : World) (ho : w.ownsRow B 44 7 (.slice p n c) n cells) (h1c : ∀ u ∈ cells, u.oneCell' = true) (g1 : Nat) (hb1 : Blk w g1 44 xs.toArray)
    (hne1 : (Value.slice p n c).ownBlock ≠ some g1) (hx7 : xs.length = 7) (h1 : ∀ u ∈ xs, u.oneCell' = true) (hB : B ≤ w.heap.size) :
    Calls Try.prog 153 #[.slice p n c, .int .i64 i, .slice (some ⟨g1, 0, none⟩) 1 1] w (InsPost B (.slice p n c) (n + 1) (cells.take (i * 7) ++ (xs ++ cells.drop (i * 7))) w) := by
  have hcl := ho.1
  rcases Nat.eq_or_lt_of_le hi with rfl | hlt
  · have hc : i ≤ c := by
      rcases ho.2 with ⟨e, _⟩ | ⟨g, cap, cur, e, _, _, hnc, _⟩
      · injection e with e1 e2 e3; omega
      · injection e with e1 e2 e3; omega
    have := insert_end B i c p cells xs hn w ho hc g1 hb1 hx7 h1 hB
    rw [List.take_of_length_le (by omega), List.drop_of_length_le (by omega), List.append_nil]
    exact this
  · rcases ho.2 with ⟨e, h0⟩ | ⟨g, cap, cur, e, hbg, hg, hnc, hcm, hcs, htk⟩
    · omega
    · injection e with e1 e2 e3
      subst e1; subst e3
      have hrow : ERow B n c g cur.toList cells w := ⟨by simpa using hg, hbg, hnc, by simpa using hcs, by simpa using htk⟩
      by_cases hr : n + 1 ≤ c
      · exact insert_room B n c i g cur.toList cells xs hn hlt hr hcm w hrow h1c g1 hb1 (fun e => hne1 (by rw [e]; rfl)) hx7 h1
      · exact insert_grow B n c i g cur.toList cells xs hn hlt (by omega) w hrow h1c g1 hb1 hx7 h1 hB
end Go.Proofs.Ytajcmpafbcpicaa
