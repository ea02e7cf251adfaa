/- The walk of TableNotes: it answers true. No conditions. -/
import Derived.Test.YtnngkjjabccglaaTAsks
set_option linter.unusedVariables false
set_option linter.unusedSimpArgs false
namespace Go.Proofs.Ytnngkjjabccglaa
open Go.RowKit

theorem ref0_in {w : World} {B h : Nat} (b : Blk w h 33 #[.slice none 0 0, .int .u64 0]) (hB : B ≤ h) : RefIn w B h [] (.slice none 0 0) :=
  ⟨b, World.ownsRow_nil _ _ _ _, hB, by simp, fun x hx => by cases hx⟩
theorem afterR_le {L : List Rn} {c v i : Nat} : (afterR L c v i).length ≤ L.length + 1 := by
  unfold afterR
  split <;> simp
abbrev noteC (c v i : Nat) : Array Value := #[u64v c, u64v v, u64v i]
set_option maxRecDepth 100000 in
set_option maxHeartbeats 4000000 in
theorem tablenotes_nat (c1 v1 i1 c2 v2 i2 : Nat) (w : World) : Calls Try.prog 3 #[.agg (noteC c1 v1 i1), .agg (noteC c2 v2 i2)] w fun e w' => e = .returned (.bool true) ∧ Below w.heap.size w w' := by
  have hx1 : Blk ((((w.alloc (.cells (noteC c1 v1 i1) 24)).alloc (.cells (noteC c2 v2 i2) 24)).alloc (.cells #[.map none, .map none, .int .u64 0, .int .u64 0] 29)).alloc (.cells #[.slice none 0 0, .int .u64 0] 33)) w.heap.size 24 (noteC c1 v1 i1) := (((Blk.new w _ _).alloc _).alloc _).alloc _
  have hx2 : Blk ((((w.alloc (.cells (noteC c1 v1 i1) 24)).alloc (.cells (noteC c2 v2 i2) 24)).alloc (.cells #[.map none, .map none, .int .u64 0, .int .u64 0] 29)).alloc (.cells #[.slice none 0 0, .int .u64 0] 33)) (w.heap.size + 1) 24 (noteC c2 v2 i2) := by
    have := ((Blk.new (w.alloc (.cells (noteC c1 v1 i1) 24)) 24 (noteC c2 v2 i2)).alloc (.cells #[.map none, .map none, .int .u64 0, .int .u64 0] 29)).alloc (.cells #[.slice none 0 0, .int .u64 0] 33)
    rwa [World.size_alloc] at this
  have hx3 : Blk ((((w.alloc (.cells (noteC c1 v1 i1) 24)).alloc (.cells (noteC c2 v2 i2) 24)).alloc (.cells #[.map none, .map none, .int .u64 0, .int .u64 0] 29)).alloc (.cells #[.slice none 0 0, .int .u64 0] 33)) (w.heap.size + 1 + 1) 29 #[.map none, .map none, .int .u64 0, .int .u64 0] := by
    have := (Blk.new ((w.alloc (.cells (noteC c1 v1 i1) 24)).alloc (.cells (noteC c2 v2 i2) 24)) 29 #[.map none, .map none, .int .u64 0, .int .u64 0]).alloc (.cells #[.slice none 0 0, .int .u64 0] 33)
    rwa [World.size_alloc, World.size_alloc] at this
  have hx4 : Blk ((((w.alloc (.cells (noteC c1 v1 i1) 24)).alloc (.cells (noteC c2 v2 i2) 24)).alloc (.cells #[.map none, .map none, .int .u64 0, .int .u64 0] 29)).alloc (.cells #[.slice none 0 0, .int .u64 0] 33)) (w.heap.size + 1 + 1 + 1) 33 #[.slice none 0 0, .int .u64 0] := by
    have := Blk.new (((w.alloc (.cells (noteC c1 v1 i1) 24)).alloc (.cells (noteC c2 v2 i2) 24)).alloc (.cells #[.map none, .map none, .int .u64 0, .int .u64 0] 29)) 33 #[.slice none 0 0, .int .u64 0]
    rwa [World.size_alloc, World.size_alloc, World.size_alloc] at this
  have H0 : Hid (PairE ((((w.alloc (.cells (noteC c1 v1 i1) 24)).alloc (.cells (noteC c2 v2 i2) 24)).alloc (.cells #[.map none, .map none, .int .u64 0, .int .u64 0] 29)).alloc (.cells #[.slice none 0 0, .int .u64 0] 33)) (w.heap.size + 1 + 1) (w.heap.size + 1 + 1) (w.heap.size + 1 + 1 + 1) 0 tab0 []) := Lib.hid ⟨tab0_in hx3 (Nat.le_refl _), _, ref0_in hx4 (by omega)⟩
  have HX : Hid (∀ W, Below (w.heap.size + 1 + 1) ((((w.alloc (.cells (noteC c1 v1 i1) 24)).alloc (.cells (noteC c2 v2 i2) 24)).alloc (.cells #[.map none, .map none, .int .u64 0, .int .u64 0] 29)).alloc (.cells #[.slice none 0 0, .int .u64 0] 33)) W → Blk W w.heap.size 24 (noteC c1 v1 i1) ∧ Blk W (w.heap.size + 1) 24 (noteC c2 v2 i2)) := Lib.hid fun W hW => ⟨hx1.below hW (by omega), hx2.below hW (by omega)⟩
  have HZ : Hid ((w.heap.size + 1 + 1) ≤ ((((w.alloc (.cells (noteC c1 v1 i1) 24)).alloc (.cells (noteC c2 v2 i2) 24)).alloc (.cells #[.map none, .map none, .int .u64 0, .int .u64 0] 29)).alloc (.cells #[.slice none 0 0, .int .u64 0] 33)).heap.size) := Lib.hid (by simp only [World.size_alloc]; omega)
  have Hb0 : Hid (Below (w.heap.size + 1 + 1) ((((w.alloc (.cells (noteC c1 v1 i1) 24)).alloc (.cells (noteC c2 v2 i2) 24)).alloc (.cells #[.map none, .map none, .int .u64 0, .int .u64 0] 29)).alloc (.cells #[.slice none 0 0, .int .u64 0] 33)) ((((w.alloc (.cells (noteC c1 v1 i1) 24)).alloc (.cells (noteC c2 v2 i2) 24)).alloc (.cells #[.map none, .map none, .int .u64 0, .int .u64 0] 29)).alloc (.cells #[.slice none 0 0, .int .u64 0] 33))) := Lib.hid (Below.refl _ _)
  have HF : Hid (Below w.heap.size w ((((w.alloc (.cells (noteC c1 v1 i1) 24)).alloc (.cells (noteC c2 v2 i2) 24)).alloc (.cells #[.map none, .map none, .int .u64 0, .int .u64 0] 29)).alloc (.cells #[.slice none 0 0, .int .u64 0] 33))) := Lib.hid (bel_al (bel_al (bel_al (bel_new w _) _) _) _)
  have S1 := Lib.hid (Same.start.after c1 v1 i1)
  have S2 := Lib.hid (S1.out.after c2 v2 i2)
  clear hx1 hx2 hx3 hx4
  go_enter Try.func3, Try.ntmps3
  go_upto_region 2 with fail
  obtain ⟨x1, x2⟩ := HX.out _ Hb0.out; have k0 := x1.cell 0; have k1 := x1.cell 1; have k2 := x1.cell 2; have j0 := x2.cell 0; have j1 := x2.cell 1; have j2 := x2.cell 2; simp at k0 k1 k2 j0 j1 j2; clear x1 x2
  have P1 := pnote H0.out HZ.out (by decide) c1 v1 i1
  rw [Same.start.code] at P1
  have HP1 := Lib.hid P1
  clear P1
  go_upto_region 3 with (go_at_call 6; refine HP1.out.mono ?_; rintro e w1 ⟨rfl, h1, b1⟩; have H1 := Lib.hid h1; have Hb1 := Lib.hid (below_two Hb0.out b1); clear h1 b1)
  clear k0 k1 k2 j0 j1 j2
  obtain ⟨x1, x2⟩ := HX.out _ Hb1.out; have k0 := x1.cell 0; have k1 := x1.cell 1; have k2 := x1.cell 2; have j0 := x2.cell 0; have j1 := x2.cell 1; have j2 := x2.cell 2; simp at k0 k1 k2 j0 j1 j2; clear x1 x2
  have P2 := pnote H1.out (Nat.le_trans HZ.out Hb1.out.size) (by decide) c2 v2 i2
  rw [S1.out.code] at P2
  have HP2 := Lib.hid P2
  clear P2
  go_upto_region 4 with (go_at_call 6; refine HP2.out.mono ?_; rintro e w2 ⟨rfl, h2, b2⟩; have H2 := Lib.hid h2; have Hb2 := Lib.hid (below_two Hb1.out b2); clear h2 b2)
  clear k0 k1 k2 j0 j1 j2 HP1 HP2
  obtain ⟨x1, x2⟩ := HX.out _ Hb2.out; have k0 := x1.cell 0; have k1 := x1.cell 1; have k2 := x1.cell 2; have j0 := x2.cell 0; have j1 := x2.cell 1; have j2 := x2.cell 2; simp at k0 k1 k2 j0 j1 j2; clear x1 x2
  go_wp2_with fail
  refine (prnote H2.out (by decide) c1 v1 i1).mono ?_
  rintro e w3 ⟨rfl, h3, b3⟩
  have H3 := Lib.hid h3
  have Hb3 := Lib.hid (below_two Hb2.out b3)
  clear h3 b3 k0 k1 k2 j0 j1 j2
  obtain ⟨x1, x2⟩ := HX.out _ Hb3.out; have k0 := x1.cell 0; have k1 := x1.cell 1; have k2 := x1.cell 2; have j0 := x2.cell 0; have j1 := x2.cell 1; have j2 := x2.cell 2; simp at k0 k1 k2 j0 j1 j2; clear x1 x2
  go_wp2_with fail
  refine (prnote H3.out (by have := @afterR_le [] c1 v1 i1; simp at this; omega) c2 v2 i2).mono ?_
  rintro e w4 ⟨rfl, h4, b4⟩
  have H4 := Lib.hid h4
  have Hb4 := Lib.hid (below_two Hb3.out b4)
  clear h4 b4 k0 k1 k2 j0 j1 j2
  obtain ⟨x1, x2⟩ := HX.out _ Hb4.out; have k0 := x1.cell 0; have k1 := x1.cell 1; have k2 := x1.cell 2; have j0 := x2.cell 0; have j1 := x2.cell 1; have j2 := x2.cell 2; simp at k0 k1 k2 j0 j1 j2; clear x1 x2
  go_wp2_with fail
  refine (asks_any H4.out S2.out c1 v2).mono ?_
  rintro e w5 ⟨rfl, b5⟩
  have H5 := Lib.hid (H4.out.under b5)
  have Hb5 := Lib.hid (below_then Hb4.out (Nat.le_trans HZ.out Hb4.out.size) b5)
  clear b5 k0 k1 k2 j0 j1 j2
  obtain ⟨x1, x2⟩ := HX.out _ Hb5.out; have k0 := x1.cell 0; have k1 := x1.cell 1; have k2 := x1.cell 2; have j0 := x2.cell 0; have j1 := x2.cell 1; have j2 := x2.cell 2; simp at k0 k1 k2 j0 j1 j2; clear x1 x2
  go_wp2_with fail
  refine (asks_any H5.out S2.out c2 v1).mono ?_
  rintro e w6 ⟨rfl, b6⟩
  have Hb6 := Lib.hid (below_then Hb5.out (Nat.le_trans HZ.out Hb5.out.size) b6)
  clear b6 k0 k1 k2 j0 j1 j2
  go_wp2_with fail
  refine (tknown_any w6).mono ?_
  rintro e w7 ⟨rfl, b7⟩
  have Hb7 := Lib.hid (below_then Hb6.out (Nat.le_trans HZ.out Hb6.out.size) b7)
  clear b7
  go_wp2_with fail
  go_ret
  exact ⟨rfl, below_two HF.out (Hb7.out.mono (by omega))⟩
theorem tablenotes_int (c1 v1 i1 c2 v2 i2 : Int) (h1 : 0 ≤ c1) (h2 : 0 ≤ v1) (h3 : 0 ≤ i1) (h4 : 0 ≤ c2) (h5 : 0 ≤ v2) (h6 : 0 ≤ i2) (w : World) : Calls Try.prog 3 #[.agg #[.int .u64 c1, .int .u64 v1, .int .u64 i1], .agg #[.int .u64 c2, .int .u64 v2, .int .u64 i2]] w fun e w' => e = .returned (.bool true) ∧ Below w.heap.size w w' := by
  have k := tablenotes_nat c1.toNat v1.toNat i1.toNat c2.toNat v2.toNat i2.toNat w
  simp only [noteC, u64v, Int.toNat_of_nonneg h1, Int.toNat_of_nonneg h2, Int.toNat_of_nonneg h3, Int.toNat_of_nonneg h4, Int.toNat_of_nonneg h5, Int.toNat_of_nonneg h6] at k
  exact k
end Go.Proofs.Ytnngkjjabccglaa
