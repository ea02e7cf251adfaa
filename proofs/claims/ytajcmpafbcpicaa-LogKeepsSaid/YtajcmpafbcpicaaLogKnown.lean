/- The walk of commonplacelaw19.known: it answers true. No conditions. -/
import Derived.Test.YtajcmpafbcpicaaLog2
set_option linter.unusedVariables false
set_option linter.unusedSimpArgs false
namespace Go.Proofs.Ytajcmpafbcpicaa
open Go.RowKit

set_option maxRecDepth 100000 in
set_option maxHeartbeats 4000000 in
theorem logknown_any (w : World) : Calls Try.prog 60 #[] w fun e w' => e = .returned (.bool true) ∧ Below w.heap.size w w' := by
  have hs2 : (madeCells #[Value.pointer none] 2).size = 2 := by simp [madeCells]
  go_enter Try.func60, Try.ntmps60
  go_upto_region 5 with (first
    | (go_at_call 56; refine (lnew_any 2 (by decide) (by decide) w).mono ?_; rintro e w1 ⟨g, gr, rfl, hl1, hg, hgr, hb1⟩; have Hl1 := Lib.hid hl1; have Hb1 := Lib.hid hb1; clear hl1 hb1)
    | (go_at_call 57; refine (trees_any w1).mono ?_; rintro e w2 ⟨gt, a, b, c, d, rfl, ht, hgt, hab1, hab2, hab3, hab4, hb2⟩; have Hl2 := Lib.hid (Hl1.out.under hb2); have Hb2 := Lib.hid (bel_tr Hb1.out hb2); have ta := ht.cell 1; simp at ta; clear ht hb2))
  have Bt := Blk.new w2 61 #[pa a]
  have hl := Hl2.out.under (bel_new w2 (.cells #[pa a] 61))
  have hb := bel_al Hb2.out (.cells #[pa a] 61)
  have hg1 := Hl2.out.log.lt
  have hg2 := Hl2.out.row.lt
  have B3 := Lib.hid Bt
  have H3 := Lib.hid hl
  have Hb3 := Lib.hid hb
  have S3 := Lib.hid hs2
  have Hg := Lib.hid (show w.heap.size ≤ g ∧ w.heap.size ≤ gr ∧ w2.heap.size ≠ g ∧ w2.heap.size ≠ gr from ⟨hg, hgr, by omega, by omega⟩)
  clear Bt hl hb hs2 hg hgr hg1 hg2 Hl2 Hb2 Hl1 Hb1 ta hgt hab1 hab2 hab3 hab4
  generalize he : w2.alloc (.cells #[pa a] 61) = w3 at *
  clear he
  generalize w2.heap.size = tb at *
  generalize madeCells #[Value.pointer none] 2 = r3 at *
  have t3 := B3.out.cell 0
  simp at t3
  go_upto_region 6 with (go_at_call 58; refine (lput_next H3.out S3.out 5 (some ⟨a, 0, none⟩) ⟨by decide, .inl rfl⟩).mono ?_; rintro e w4 ⟨rfl, r4, hs4, hl4, hb4, hk4⟩)
  have H4 : Hid (LogIn w4 g gr r4 6 1) := Lib.hid (by simpa using hl4)
  have S4 := Lib.hid hs4
  have b0 := hb4 w.heap.size Hg.out.1 Hg.out.2.1 Hb3.out.size
  have Hb4 := Lib.hid (below_two Hb3.out b0)
  have B4 : Hid (Blk w4 tb 61 #[pa a]) := Lib.hid ((hk4 tb B3.out.lt Hg.out.2.2.1 Hg.out.2.2.2).trans B3.out)
  have t4 := B4.out.cell 0
  simp at t4
  clear hs4 hl4 hb4 hk4 b0
  go_upto_region 7 with (go_at_call 58; refine (lput_next H4.out S4.out 6 (some ⟨a, 0, none⟩) ⟨by decide, .inr rfl⟩).mono ?_; rintro e w5 ⟨rfl, r5, hs5, hl5, hb5, hk5⟩)
  have H5 : Hid (LogIn w5 g gr r5 7 2) := Lib.hid (by simpa using hl5)
  have S5 := Lib.hid hs5
  have b0 := hb5 w.heap.size Hg.out.1 Hg.out.2.1 Hb4.out.size
  have Hb5 := Lib.hid (below_two Hb4.out b0)
  have B5 : Hid (Blk w5 tb 61 #[pa a]) := Lib.hid ((hk5 tb B4.out.lt Hg.out.2.2.1 Hg.out.2.2.2).trans B4.out)
  have t5 := B5.out.cell 0
  simp at t5
  clear hs5 hl5 hb5 hk5 b0
  go_upto_region 8 with (go_at_call 58; refine (lput_next H5.out S5.out 7 (some ⟨a, 0, none⟩) ⟨by decide, .inr rfl⟩).mono ?_; rintro e w6 ⟨rfl, r6, hs6, hl6, hb6, hk6⟩)
  have H6 : Hid (LogIn w6 g gr r6 8 2) := Lib.hid (by simpa using hl6)
  have S6 := Lib.hid hs6
  have b0 := hb6 w.heap.size Hg.out.1 Hg.out.2.1 Hb5.out.size
  have Hb6 := Lib.hid (below_two Hb5.out b0)
  have B6 : Hid (Blk w6 tb 61 #[pa a]) := Lib.hid ((hk6 tb B5.out.lt Hg.out.2.2.1 Hg.out.2.2.2).trans B5.out)
  have t6 := B6.out.cell 0
  simp at t6
  clear hs6 hl6 hb6 hk6 b0
  go_upto_region 11 with (first
    | (go_at_call 68; refine (loldest_any H6.out (by decide) (by decide)).mono ?_; rintro e w7 ⟨rfl, hb7⟩; have H7 := Lib.hid (H6.out.under hb7); have B7 := Lib.hid (B6.out.under hb7); have Hb7 := Lib.hid (bel_tr Hb6.out hb7); clear hb7)
    | (go_at_call 61; refine (lnewest_any H7.out (by decide) (by decide)).mono ?_; rintro e w8 ⟨rfl, rfl⟩)
    | (go_at_call 63; refine (lat_old H7.out 5 (by decide) (by decide) (by decide)).mono ?_; rintro e w9 ⟨rfl, hb9⟩; have H9 := Lib.hid (H7.out.under hb9); have B9 := Lib.hid (B7.out.under hb9); have Hb9 := Lib.hid (bel_tr Hb7.out hb9); clear hb9))
  have BA := Lib.hid (B9.out.alloc (.cells #[.pointer none] 61))
  have HA := Lib.hid (H9.out.under (bel_new w9 (.cells #[.pointer none] 61)))
  have HbA := Lib.hid (bel_al Hb9.out (.cells #[.pointer none] 61))
  have tA := BA.out.cell 0
  simp at tA
  go_wp2_with (first
    | (have hb12 := HbB.out; go_at_call 58; refine (lput_no HB.out 9 (some ⟨a, 0, none⟩) 14 (by decide)).mono ?_; rintro e wC ⟨rfl, hbC⟩; have HbC := Lib.hid (bel_tr hb12 hbC); clear hbC hb12)
    | (go_at_call 58; refine (lput_no HA.out 7 (some ⟨a, 0, none⟩) 15 (by decide)).mono ?_; rintro e wB ⟨rfl, hbB⟩; have HB := Lib.hid (HA.out.under hbB); have tB := (BA.out.under hbB).cell 0; simp at tB; have HbB := Lib.hid (bel_tr HbA.out hbB); clear hbB))
  go_ret
  exact ⟨rfl, HbC.out⟩
end Go.Proofs.Ytajcmpafbcpicaa
