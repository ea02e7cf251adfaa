/- The walk of the law LogPuts: it answers true. Conditions: two numbers below 2^64. -/
import Derived.Test.YtajcmpafbcpicaaLogKnown
import Derived.Test.YtajcmpafbcpicaaRegOwn
set_option linter.unusedVariables false
set_option linter.unusedSimpArgs false
namespace Go.Proofs.Ytajcmpafbcpicaa
open Go.RowKit

/-- What holds in region 4 of LogPuts. -/
def I4 (a0 : Act) (w1 : World) (L : Nat → Prop) (a : Act) (W : World) : Prop :=
  Off [24, 25, 26, 27, 28, 29, 7, 8] a0 a ∧ Below w1.heap.size w1 W ∧ ∃ own : Nat → Nat,
    (L 0 → At own W 0 w1.heap.size 61 fun b cs => Slot a 24 (.slice (some ⟨b, 0, none⟩) 5 5) ∧ ∃ x, cs[1]? = some (pa x)) ∧
    (L 1 → At own W 0 w1.heap.size 61 fun b cs => Slot a 25 (.pointer (some ⟨b, 1, none⟩)) ∧ ∃ x, cs[1]? = some (pa x)) ∧
    (L 2 → ∃ x, Slot a 26 (.agg #[pa x])) ∧
    (L 3 → At own W 3 w1.heap.size 61 fun b cs => Slot a 27 (.slice (some ⟨b, 0, none⟩) 5 5) ∧ ∃ x, cs[2]? = some (pa x)) ∧
    (L 4 → At own W 3 w1.heap.size 61 fun b cs => Slot a 28 (.pointer (some ⟨b, 2, none⟩)) ∧ ∃ x, cs[2]? = some (pa x)) ∧
    (L 5 → ∃ x, Slot a 29 (.agg #[pa x])) ∧
    (L 6 → At own W 6 w1.heap.size 61 fun b cs => Slot a 7 (pa b) ∧ cs.size = 1) ∧
    (L 7 → At own W 7 w1.heap.size 61 fun b cs => Slot a 8 (pa b) ∧ cs.size = 1) ∧
    (L 8 → At own W 6 w1.heap.size 61 fun b cs => Slot a 7 (pa b) ∧ ∃ x, cs = #[pa x]) ∧
    (L 9 → At own W 7 w1.heap.size 61 fun b cs => Slot a 8 (pa b) ∧ ∃ x, cs = #[pa x]) ∧
    (L 8 → L 6) ∧ (L 9 → L 7)

set_option maxRecDepth 100000 in
set_option maxHeartbeats 2000000 in
theorem logputs_walk (a b : Nat) (ha : a < 18446744073709551616) (hb : b < 18446744073709551616) (w : World) : Calls Try.prog 9 #[.int .u64 (a : Nat), .int .u64 (b : Nat)] w fun e w' => e = .returned (.bool true) ∧ Below w.heap.size w w' := by
  have hs3 : (madeCells #[Value.pointer none] 3).size = 3 := by simp [madeCells]
  go_enter Try.func9, Try.ntmps9
  go_upto_region 4 with (first
    | (go_at_call 56; refine (lnew_any 3 (by decide) (by decide) w).mono ?_; rintro e w1 ⟨g, gr, rfl, hl1, hg, hgr, hb1⟩; have Hl1 := Lib.hid hl1; have Hb1 := Lib.hid hb1; clear hl1 hb1))
  have HT := Lib.hid trees_any
  refine wp_region_from (fun a0 w1 => I4 a0 w1) (by kernel_rfl) (by kernel_rfl) ?start ?steps ?done
  case start =>
    exact ⟨Off.refl _ _, (Below.refl _ _).drew, fun _ => 99, fun h => h.elim, fun h => h.elim, fun h => h.elim, fun h => h.elim, fun h => h.elim, fun h => h.elim, fun h => h.elim, fun h => h.elim, fun h => h.elim, fun h => h.elim, fun h => h.elim, fun h => h.elim⟩
  case steps =>
    rintro J rfl
    refine ⟨?s0, ?s1, ?s2, ?s3, ?s4, ?s5, ?s6, ?s7, ?s8, ?s9, trivial⟩
    case s0 =>
      rintro L A W ⟨hoff, hbel, own, f0, f1, f2, f3, f4, f5, f6, f7, f8, f9, f10, f11⟩ hn hw K hK
      have hsz := Lib.hid (show A.tmps.size = 105 from hoff.size)
      go_simp
      go_at_call 57
      refine (HT.out _).mono ?_
      rintro e w2 ⟨g', a', b', c', d', rfl, ht, hgt, hab1, hab2, hab3, hab4, hb2⟩
      have hst : Stay own W (ownNew own W 0) w2 99 := stay_below hb2 _ _
      exact hK (A.put (some 24) _) _ ⟨hoff.put 24 (by decide) _, bel_tr hbel hb2, ownNew own W 0,
        fun _ => ⟨g', _, ownNew_new hgt, Nat.le_trans hbel.size hgt, ht, Slot.put _ (by have := hsz.out; omega), a', rfl⟩,
        fun h => (f1 (got h rfl)).keepS hst (by decide) (by decide),
        fun h => (f2 (got h rfl)).imp fun x s => s.far _ (by decide),
        fun h => (f3 (got h rfl)).keepS hst (by decide) (by decide),
        fun h => (f4 (got h rfl)).keepS hst (by decide) (by decide),
        fun h => (f5 (got h rfl)).imp fun x s => s.far _ (by decide),
        fun h => (f6 (got h rfl)).keepS hst (by decide) (by decide),
        fun h => (f7 (got h rfl)).keepS hst (by decide) (by decide),
        fun h => (f8 (got h rfl)).keepS hst (by decide) (by decide),
        fun h => (f9 (got h rfl)).keepS hst (by decide) (by decide),
        fun h => Or.inr (f10 (got h rfl)),
        fun h => Or.inr (f11 (got h rfl))⟩
    case s1 =>
      rintro L A W ⟨hoff, hbel, own, f0, f1, f2, f3, f4, f5, f6, f7, f8, f9, f10, f11⟩ hn hw K hK
      have hsz := Lib.hid (show A.tmps.size = 105 from hoff.size)
      obtain ⟨b0, cs0, o1, o2, o3, hs0, x0, hx0⟩ := f0 (hw 0 (by simp [waitsFor, Region.binds]))
      have hst : Stay own W own W 99 := stay_refl _ _ _
      have hs0' : A.tmps[24]? = some _ := hs0
      go_simp
      exact hK (A.put (some 25) _) _ ⟨hoff.put 25 (by decide) _, hbel, own,
        fun h => (f0 (got h rfl)).keepS hst (by decide) (by decide),
        fun _ => ⟨b0, cs0, o1, o2, o3, Slot.put _ (by have := hsz.out; omega), x0, hx0⟩,
        fun h => (f2 (got h rfl)).imp fun x s => s.far _ (by decide),
        fun h => (f3 (got h rfl)).keepS hst (by decide) (by decide),
        fun h => (f4 (got h rfl)).keepS hst (by decide) (by decide),
        fun h => (f5 (got h rfl)).imp fun x s => s.far _ (by decide),
        fun h => (f6 (got h rfl)).keepS hst (by decide) (by decide),
        fun h => (f7 (got h rfl)).keepS hst (by decide) (by decide),
        fun h => (f8 (got h rfl)).keepS hst (by decide) (by decide),
        fun h => (f9 (got h rfl)).keepS hst (by decide) (by decide),
        fun h => Or.inr (f10 (got h rfl)),
        fun h => Or.inr (f11 (got h rfl))⟩
    case s2 =>
      rintro L A W ⟨hoff, hbel, own, f0, f1, f2, f3, f4, f5, f6, f7, f8, f9, f10, f11⟩ hn hw K hK
      have hsz := Lib.hid (show A.tmps.size = 105 from hoff.size)
      obtain ⟨b0, cs0, o1, o2, o3, hs0, x0, hx0⟩ := f1 (hw 1 (by simp [waitsFor, Region.binds]))
      have hst : Stay own W own W 99 := stay_refl _ _ _
      have hs0' : A.tmps[25]? = some _ := hs0
      have hc0 : W.cell? ⟨b0, 1, none⟩ = some (pa x0) := (o3.cell 1).trans hx0
      go_simp
      exact hK (A.put (some 26) _) _ ⟨hoff.put 26 (by decide) _, hbel, own,
        fun h => (f0 (got h rfl)).keepS hst (by decide) (by decide),
        fun h => (f1 (got h rfl)).keepS hst (by decide) (by decide),
        fun _ => ⟨x0, Slot.put (a := A) (d := 26) _ (by have := hsz.out; omega)⟩,
        fun h => (f3 (got h rfl)).keepS hst (by decide) (by decide),
        fun h => (f4 (got h rfl)).keepS hst (by decide) (by decide),
        fun h => (f5 (got h rfl)).imp fun x s => s.far _ (by decide),
        fun h => (f6 (got h rfl)).keepS hst (by decide) (by decide),
        fun h => (f7 (got h rfl)).keepS hst (by decide) (by decide),
        fun h => (f8 (got h rfl)).keepS hst (by decide) (by decide),
        fun h => (f9 (got h rfl)).keepS hst (by decide) (by decide),
        fun h => Or.inr (f10 (got h rfl)),
        fun h => Or.inr (f11 (got h rfl))⟩
    case s3 =>
      rintro L A W ⟨hoff, hbel, own, f0, f1, f2, f3, f4, f5, f6, f7, f8, f9, f10, f11⟩ hn hw K hK
      have hsz := Lib.hid (show A.tmps.size = 105 from hoff.size)
      go_simp
      go_at_call 57
      refine (HT.out _).mono ?_
      rintro e w2 ⟨g', a', b', c', d', rfl, ht, hgt, hab1, hab2, hab3, hab4, hb2⟩
      have hst : Stay own W (ownNew own W 3) w2 99 := stay_below hb2 _ _
      exact hK (A.put (some 27) _) _ ⟨hoff.put 27 (by decide) _, bel_tr hbel hb2, ownNew own W 3,
        fun h => (f0 (got h rfl)).keepS hst (by decide) (by decide),
        fun h => (f1 (got h rfl)).keepS hst (by decide) (by decide),
        fun h => (f2 (got h rfl)).imp fun x s => s.far _ (by decide),
        fun _ => ⟨g', _, ownNew_new hgt, Nat.le_trans hbel.size hgt, ht, Slot.put _ (by have := hsz.out; omega), b', rfl⟩,
        fun h => (f4 (got h rfl)).keepS hst (by decide) (by decide),
        fun h => (f5 (got h rfl)).imp fun x s => s.far _ (by decide),
        fun h => (f6 (got h rfl)).keepS hst (by decide) (by decide),
        fun h => (f7 (got h rfl)).keepS hst (by decide) (by decide),
        fun h => (f8 (got h rfl)).keepS hst (by decide) (by decide),
        fun h => (f9 (got h rfl)).keepS hst (by decide) (by decide),
        fun h => Or.inr (f10 (got h rfl)),
        fun h => Or.inr (f11 (got h rfl))⟩
    case s4 =>
      rintro L A W ⟨hoff, hbel, own, f0, f1, f2, f3, f4, f5, f6, f7, f8, f9, f10, f11⟩ hn hw K hK
      have hsz := Lib.hid (show A.tmps.size = 105 from hoff.size)
      obtain ⟨b0, cs0, o1, o2, o3, hs0, x0, hx0⟩ := f3 (hw 3 (by simp [waitsFor, Region.binds]))
      have hst : Stay own W own W 99 := stay_refl _ _ _
      have hs0' : A.tmps[27]? = some _ := hs0
      go_simp
      exact hK (A.put (some 28) _) _ ⟨hoff.put 28 (by decide) _, hbel, own,
        fun h => (f0 (got h rfl)).keepS hst (by decide) (by decide),
        fun h => (f1 (got h rfl)).keepS hst (by decide) (by decide),
        fun h => (f2 (got h rfl)).imp fun x s => s.far _ (by decide),
        fun h => (f3 (got h rfl)).keepS hst (by decide) (by decide),
        fun _ => ⟨b0, cs0, o1, o2, o3, Slot.put _ (by have := hsz.out; omega), x0, hx0⟩,
        fun h => (f5 (got h rfl)).imp fun x s => s.far _ (by decide),
        fun h => (f6 (got h rfl)).keepS hst (by decide) (by decide),
        fun h => (f7 (got h rfl)).keepS hst (by decide) (by decide),
        fun h => (f8 (got h rfl)).keepS hst (by decide) (by decide),
        fun h => (f9 (got h rfl)).keepS hst (by decide) (by decide),
        fun h => Or.inr (f10 (got h rfl)),
        fun h => Or.inr (f11 (got h rfl))⟩
    case s5 =>
      rintro L A W ⟨hoff, hbel, own, f0, f1, f2, f3, f4, f5, f6, f7, f8, f9, f10, f11⟩ hn hw K hK
      have hsz := Lib.hid (show A.tmps.size = 105 from hoff.size)
      obtain ⟨b0, cs0, o1, o2, o3, hs0, x0, hx0⟩ := f4 (hw 4 (by simp [waitsFor, Region.binds]))
      have hst : Stay own W own W 99 := stay_refl _ _ _
      have hs0' : A.tmps[28]? = some _ := hs0
      have hc0 : W.cell? ⟨b0, 2, none⟩ = some (pa x0) := (o3.cell 2).trans hx0
      go_simp
      exact hK (A.put (some 29) _) _ ⟨hoff.put 29 (by decide) _, hbel, own,
        fun h => (f0 (got h rfl)).keepS hst (by decide) (by decide),
        fun h => (f1 (got h rfl)).keepS hst (by decide) (by decide),
        fun h => (f2 (got h rfl)).imp fun x s => s.far _ (by decide),
        fun h => (f3 (got h rfl)).keepS hst (by decide) (by decide),
        fun h => (f4 (got h rfl)).keepS hst (by decide) (by decide),
        fun _ => ⟨x0, Slot.put (a := A) (d := 29) _ (by have := hsz.out; omega)⟩,
        fun h => (f6 (got h rfl)).keepS hst (by decide) (by decide),
        fun h => (f7 (got h rfl)).keepS hst (by decide) (by decide),
        fun h => (f8 (got h rfl)).keepS hst (by decide) (by decide),
        fun h => (f9 (got h rfl)).keepS hst (by decide) (by decide),
        fun h => Or.inr (f10 (got h rfl)),
        fun h => Or.inr (f11 (got h rfl))⟩
    case s6 =>
      rintro L A W ⟨hoff, hbel, own, f0, f1, f2, f3, f4, f5, f6, f7, f8, f9, f10, f11⟩ hn hw K hK
      have hsz := Lib.hid (show A.tmps.size = 105 from hoff.size)
      have hst : Stay own W (ownNew own W 6) (W.alloc (.cells #[Value.pointer none] 61)) 99 := stay_below (bel_new _ _) _ _
      go_simp
      exact hK (A.put (some 7) _) _ ⟨hoff.put 7 (by decide) _, bel_al hbel _, ownNew own W 6,
        fun h => (f0 (got h rfl)).keepS hst (by decide) (by decide),
        fun h => (f1 (got h rfl)).keepS hst (by decide) (by decide),
        fun h => (f2 (got h rfl)).imp fun x s => s.far _ (by decide),
        fun h => (f3 (got h rfl)).keepS hst (by decide) (by decide),
        fun h => (f4 (got h rfl)).keepS hst (by decide) (by decide),
        fun h => (f5 (got h rfl)).imp fun x s => s.far _ (by decide),
        fun _ => ⟨_, _, ownNew_new (Nat.le_refl _), hbel.size, Blk.new _ _ _, Slot.put _ (by have := hsz.out; omega), rfl⟩,
        fun h => (f7 (got h rfl)).keepS hst (by decide) (by decide),
        fun h => absurd (f10 (got h rfl)) hn,
        fun h => (f9 (got h rfl)).keepS hst (by decide) (by decide),
        fun _ => Or.inl rfl,
        fun h => Or.inr (f11 (got h rfl))⟩
    case s7 =>
      rintro L A W ⟨hoff, hbel, own, f0, f1, f2, f3, f4, f5, f6, f7, f8, f9, f10, f11⟩ hn hw K hK
      have hsz := Lib.hid (show A.tmps.size = 105 from hoff.size)
      have hst : Stay own W (ownNew own W 7) (W.alloc (.cells #[Value.pointer none] 61)) 99 := stay_below (bel_new _ _) _ _
      go_simp
      exact hK (A.put (some 8) _) _ ⟨hoff.put 8 (by decide) _, bel_al hbel _, ownNew own W 7,
        fun h => (f0 (got h rfl)).keepS hst (by decide) (by decide),
        fun h => (f1 (got h rfl)).keepS hst (by decide) (by decide),
        fun h => (f2 (got h rfl)).imp fun x s => s.far _ (by decide),
        fun h => (f3 (got h rfl)).keepS hst (by decide) (by decide),
        fun h => (f4 (got h rfl)).keepS hst (by decide) (by decide),
        fun h => (f5 (got h rfl)).imp fun x s => s.far _ (by decide),
        fun h => (f6 (got h rfl)).keepS hst (by decide) (by decide),
        fun _ => ⟨_, _, ownNew_new (Nat.le_refl _), hbel.size, Blk.new _ _ _, Slot.put _ (by have := hsz.out; omega), rfl⟩,
        fun h => (f8 (got h rfl)).keepS hst (by decide) (by decide),
        fun h => absurd (f11 (got h rfl)) hn,
        fun h => Or.inr (f10 (got h rfl)),
        fun _ => Or.inl rfl⟩
    case s8 =>
      rintro L A W ⟨hoff, hbel, own, f0, f1, f2, f3, f4, f5, f6, f7, f8, f9, f10, f11⟩ hn hw K hK
      have hsz := Lib.hid (show A.tmps.size = 105 from hoff.size)
      obtain ⟨b0, cs0, o1, o2, o3, hs0, hcs⟩ := f6 (hw 6 (by simp [waitsFor, Region.binds]))
      obtain ⟨x0, hx0⟩ := f2 (hw 2 (by simp [waitsFor, Region.binds]))
      obtain ⟨v0, rfl⟩ : ∃ v, cs0 = #[v] := by
        obtain ⟨l⟩ := cs0
        match l, hcs with
        | [v], _ => exact ⟨v, rfl⟩
      have hst : Stay own W own (W.setCell ⟨b0, 0, none⟩ (pa x0)) 6 := stay_set _ o1
      have hs0' : A.tmps[7]? = some _ := hs0
      have hx0' : A.tmps[26]? = some _ := hx0
      have hc0 : W.cell? ⟨b0, 0, none⟩ = some v0 := o3.cell 0
      have hf0 : W.frozen? ⟨b0, 0, none⟩ = false := o3.frozen 0
      have o4 : Blk (W.setCell ⟨b0, 0, none⟩ (pa x0)) b0 61 #[pa x0] := by simpa using o3.set_ 0 (pa x0)
      go_simp
      exact hK A _ ⟨hoff, hbel.setCell (p := ⟨b0, 0, none⟩) o2 _, own,
        fun h => (f0 (got h rfl)).stay hst (by decide),
        fun h => (f1 (got h rfl)).stay hst (by decide),
        fun h => (f2 (got h rfl)),
        fun h => (f3 (got h rfl)).stay hst (by decide),
        fun h => (f4 (got h rfl)).stay hst (by decide),
        fun h => (f5 (got h rfl)),
        fun _ => ⟨b0, _, o1, o2, o4, hs0, rfl⟩,
        fun h => (f7 (got h rfl)).stay hst (by decide),
        fun _ => ⟨b0, _, o1, o2, o4, hs0, x0, rfl⟩,
        fun h => (f9 (got h rfl)).stay hst (by decide),
        fun _ => Or.inr (hw 6 (by simp [waitsFor, Region.binds])),
        fun h => Or.inr (f11 (got h rfl))⟩
    case s9 =>
      rintro L A W ⟨hoff, hbel, own, f0, f1, f2, f3, f4, f5, f6, f7, f8, f9, f10, f11⟩ hn hw K hK
      have hsz := Lib.hid (show A.tmps.size = 105 from hoff.size)
      obtain ⟨b0, cs0, o1, o2, o3, hs0, hcs⟩ := f7 (hw 7 (by simp [waitsFor, Region.binds]))
      obtain ⟨x0, hx0⟩ := f5 (hw 5 (by simp [waitsFor, Region.binds]))
      obtain ⟨v0, rfl⟩ : ∃ v, cs0 = #[v] := by
        obtain ⟨l⟩ := cs0
        match l, hcs with
        | [v], _ => exact ⟨v, rfl⟩
      have hst : Stay own W own (W.setCell ⟨b0, 0, none⟩ (pa x0)) 7 := stay_set _ o1
      have hs0' : A.tmps[8]? = some _ := hs0
      have hx0' : A.tmps[29]? = some _ := hx0
      have hc0 : W.cell? ⟨b0, 0, none⟩ = some v0 := o3.cell 0
      have hf0 : W.frozen? ⟨b0, 0, none⟩ = false := o3.frozen 0
      have o4 : Blk (W.setCell ⟨b0, 0, none⟩ (pa x0)) b0 61 #[pa x0] := by simpa using o3.set_ 0 (pa x0)
      go_simp
      exact hK A _ ⟨hoff, hbel.setCell (p := ⟨b0, 0, none⟩) o2 _, own,
        fun h => (f0 (got h rfl)).stay hst (by decide),
        fun h => (f1 (got h rfl)).stay hst (by decide),
        fun h => (f2 (got h rfl)),
        fun h => (f3 (got h rfl)).stay hst (by decide),
        fun h => (f4 (got h rfl)).stay hst (by decide),
        fun h => (f5 (got h rfl)),
        fun h => (f6 (got h rfl)).stay hst (by decide),
        fun _ => ⟨b0, _, o1, o2, o4, hs0, rfl⟩,
        fun h => (f8 (got h rfl)).stay hst (by decide),
        fun _ => ⟨b0, _, o1, o2, o4, hs0, x0, rfl⟩,
        fun h => Or.inr (f10 (got h rfl)),
        fun _ => Or.inr (hw 7 (by simp [waitsFor, Region.binds]))⟩
  case done =>
    rintro L A W ⟨hoff, hbel, own, f0, f1, f2, f3, f4, f5, f6, f7, f8, f9, f10⟩ hall
    obtain ⟨g1, cs1, o1, m1, k1, s24, q1⟩ := f0 (hall 0 (by decide))
    obtain ⟨g2, cs2, o2, m2, k2, s25, q2⟩ := f1 (hall 1 (by decide))
    obtain ⟨y1, s26⟩ := f2 (hall 2 (by decide))
    obtain ⟨g3, cs3, o3, m3, k3, s27, q3⟩ := f3 (hall 3 (by decide))
    obtain ⟨g4, cs4, o4, m4, k4, s28, q4⟩ := f4 (hall 4 (by decide))
    obtain ⟨y2, s29⟩ := f5 (hall 5 (by decide))
    obtain ⟨x7, cs7, o7, n7, b7, s7, ra, rfl⟩ := f8 (hall 8 (by decide))
    obtain ⟨x8, cs8, o8, n8, b8, s8, rb, rfl⟩ := f9 (hall 9 (by decide))
    obtain rfl := hoff.act (fun t => if t = 24 then .slice (some ⟨g1, 0, none⟩) 5 5 else if t = 25 then .pointer (some ⟨g2, 1, none⟩) else if t = 26 then .agg #[pa y1] else if t = 27 then .slice (some ⟨g3, 0, none⟩) 5 5 else if t = 28 then .pointer (some ⟨g4, 2, none⟩) else if t = 29 then .agg #[pa y2] else if t = 7 then pa x7 else pa x8)
      (fun d hd => by
        simp at hd
        rcases hd with rfl | rfl | rfl | rfl | rfl | rfl | rfl | rfl <;> assumption)
    have H4 := Lib.hid (Hl1.out.under hbel)
    have Hb4 := Lib.hid (bel_tr Hb1.out hbel)
    have B7 := Lib.hid b7
    have B8 := Lib.hid b8
    have c7 := b7.cell 0
    have c8 := b8.cell 0
    simp at c7 c8
    have Hg := Lib.hid (show w.heap.size ≤ g ∧ w.heap.size ≤ gr ∧ x7 ≠ g ∧ x7 ≠ gr ∧ x8 ≠ g ∧ x8 ≠ gr from by
      have := Hl1.out.log.lt
      have := Hl1.out.row.lt
      exact ⟨hg, hgr, by omega, by omega, by omega, by omega⟩)
    have HS := Lib.hid hs3
    simp only [List.foldl, List.setIfInBounds_toArray, List.set_cons_zero, List.set_cons_succ, Nat.reduceEqDiff, if_true, if_false, reduceIte]
    clear s24 s25 s26 s27 s28 s29 s7 s8 hoff f0 f1 f2 f3 f4 f5 f6 f7 f8 f9 f10 hall o1 m1 k1 q1 o2 m2 k2 q2 o3 m3 k3 q3 o4 m4 k4 q4 o7 o8 own cs1 cs2 cs3 cs4 b7 b8 n7 n8 hg hgr hbel Hb1 Hl1 hs3
    generalize madeCells #[Value.pointer none] 3 = ring at *
    have HK := Lib.hid logknown_any
    by_cases hA : a ≤ 4611686018427387903
    · go_upto_region 6 with (go_at_call 58; refine (lput_next H4.out HS.out a (some ⟨ra, 0, none⟩) ⟨hA, .inl rfl⟩).mono ?_; rintro e w5 ⟨rfl, r5, hs5, hl5, hb5, hk5⟩)
      have H5 : Hid (LogIn w5 g gr r5 (a + 1) 1) := Lib.hid (by simpa using hl5)
      have S5 := Lib.hid hs5
      have b0 := hb5 w.heap.size Hg.out.1 Hg.out.2.1 Hb4.out.size
      have Hb5 := Lib.hid (below_two Hb4.out b0)
      have B5 : Hid (Blk w5 x8 61 #[pa rb]) := Lib.hid ((hk5 x8 B8.out.lt Hg.out.2.2.2.2.1 Hg.out.2.2.2.2.2).trans B8.out)
      have c5 := B5.out.cell 0
      simp at c5
      clear hs5 hl5 hb5 hk5 b0
      by_cases hB : b ≤ 4611686018427387903
      · by_cases hba : b ≤ a
        · go_wp2_with (first
            | (go_at_call 58; refine (lput_no H5.out b (some ⟨rb, 0, none⟩) 15 (.inr (.inl ⟨hB, by decide, by omega, rfl⟩))).mono ?_; rintro e w6 ⟨rfl, hb6⟩; have H6 := Lib.hid (H5.out.under hb6); have Hb6 := Lib.hid (bel_tr Hb5.out hb6); clear hb6)
            | (go_at_call 61; refine (lnewest_any H6.out (by decide) (by omega)).mono ?_; rintro e w7 ⟨rfl, rfl⟩)
            | (go_at_call 59; refine (llen_any H6.out).mono ?_; rintro e w7 ⟨rfl, rfl⟩)
            | (go_at_call 60; refine (HK.out _).mono ?_; rintro e w8 ⟨rfl, hb8⟩; have Hb8 := Lib.hid (bel_tr Hb6.out hb8); clear hb8))
          go_ret
          exact ⟨rfl, Hb8.out⟩
        · by_cases hb1 : b = a + 1
          · have hle1 : b ≤ a + 1 := by omega
            have hle2 : a + 1 ≤ b := by omega
            have Hb1 := Lib.hid hb1
            clear hb1
            go_upto_region 9 with (go_at_call 58; refine (lput_next H5.out S5.out b (some ⟨rb, 0, none⟩) ⟨hB, .inr Hb1.out⟩).mono ?_; rintro e w6 ⟨rfl, r6, hs6, hl6, hb6, hk6⟩)
            have H6 : Hid (LogIn w6 g gr r6 (b + 1) 2) := Lib.hid (by simpa using hl6)
            have b0 := hb6 w.heap.size Hg.out.1 Hg.out.2.1 Hb5.out.size
            have Hb6 := Lib.hid (below_two Hb5.out b0)
            clear hs6 hl6 hb6 hk6 b0
            go_wp2_with (first
              | (go_at_call 61; refine (lnewest_any H6.out (by decide) (by omega)).mono ?_; rintro e w7 ⟨rfl, rfl⟩)
              | (go_at_call 59; refine (llen_any H6.out).mono ?_; rintro e w7 ⟨rfl, rfl⟩)
              | (go_at_call 60; refine (HK.out _).mono ?_; rintro e w8 ⟨rfl, hb8⟩; have Hb8 := Lib.hid (bel_tr Hb6.out hb8); clear hb8))
            go_ret
            exact ⟨rfl, Hb8.out⟩
          · go_wp2_with (first
              | (go_at_call 58; refine (lput_no H5.out b (some ⟨rb, 0, none⟩) 14 (.inr (.inr ⟨hB, by decide, by omega, rfl⟩))).mono ?_; rintro e w6 ⟨rfl, hb6⟩; have H6 := Lib.hid (H5.out.under hb6); have Hb6 := Lib.hid (bel_tr Hb5.out hb6); clear hb6)
              | (go_at_call 61; refine (lnewest_any H6.out (by decide) (by omega)).mono ?_; rintro e w7 ⟨rfl, rfl⟩)
              | (go_at_call 59; refine (llen_any H6.out).mono ?_; rintro e w7 ⟨rfl, rfl⟩)
              | (go_at_call 60; refine (HK.out _).mono ?_; rintro e w8 ⟨rfl, hb8⟩; have Hb8 := Lib.hid (bel_tr Hb6.out hb8); clear hb8))
            go_ret
            exact ⟨rfl, Hb8.out⟩
      · go_wp2_with (first
          | (go_at_call 58; refine (lput_no H5.out b (some ⟨rb, 0, none⟩) 7 (.inl ⟨by omega, rfl⟩)).mono ?_; rintro e w6 ⟨rfl, hb6⟩; have H6 := Lib.hid (H5.out.under hb6); have Hb6 := Lib.hid (bel_tr Hb5.out hb6); clear hb6)
          | (go_at_call 61; refine (lnewest_any H6.out (by decide) (by omega)).mono ?_; rintro e w7 ⟨rfl, rfl⟩)
          | (go_at_call 59; refine (llen_any H6.out).mono ?_; rintro e w7 ⟨rfl, rfl⟩)
          | (go_at_call 60; refine (HK.out _).mono ?_; rintro e w8 ⟨rfl, hb8⟩; have Hb8 := Lib.hid (bel_tr Hb6.out hb8); clear hb8))
        go_ret
        exact ⟨rfl, Hb8.out⟩
    · go_wp2_with (first
        | (go_at_call 58; refine (lput_no H4.out a (some ⟨ra, 0, none⟩) 7 (.inl ⟨by omega, rfl⟩)).mono ?_; rintro e w5 ⟨rfl, hb5⟩; have H5 := Lib.hid (H4.out.under hb5); have Hb5 := Lib.hid (bel_tr Hb4.out hb5); clear hb5)
        | (go_at_call 59; refine (llen_any H5.out).mono ?_; rintro e w6 ⟨rfl, rfl⟩)
        | (go_at_call 60; refine (HK.out _).mono ?_; rintro e w7 ⟨rfl, hb7⟩; have Hb7 := Lib.hid (bel_tr Hb5.out hb7); clear hb7))
      go_ret
      exact ⟨rfl, Hb7.out⟩
theorem logputs_int (a : Int) (ha : 0 ≤ a ∧ a ≤ 18446744073709551615) (b : Int) (hb : 0 ≤ b ∧ b ≤ 18446744073709551615) (w : World) : Calls Try.prog 9 #[.int .u64 a, .int .u64 b] w fun e w' => e = .returned (.bool true) ∧ Below w.heap.size w w' := by
  obtain ⟨a', rfl⟩ := Int.eq_ofNat_of_zero_le ha.1
  obtain ⟨b', rfl⟩ := Int.eq_ofNat_of_zero_le hb.1
  exact logputs_walk a' b' (by omega) (by omega) w
end Go.Proofs.Ytajcmpafbcpicaa
