/- The document's SameEntries and Same. Conditions: what they read lies in memory and fits. -/
import Derived.Test.YtajcmpafbcpicaaCmp4
import Derived.Test.YtajcmpafbcpicaaKnown
set_option linter.unusedVariables false
set_option linter.unusedSimpArgs false
namespace Go.Proofs.Ytajcmpafbcpicaa
open Go.RowKit

def sameEs : List En → List En → Bool
  | [], [] => true
  | x :: es, y :: fs => decide (x.1 = y.1) && decide (x.2.cmp y.2 = 0) && sameEs es fs
  | _, _ => false
theorem sameEs_self : ∀ es : List En, sameEs es es = true
  | [] => rfl
  | x :: es => by simp [sameEs, V.cmp_self, sameEs_self es]
theorem sameEs_len : ∀ {es fs : List En}, sameEs es fs = true → es.length = fs.length
  | [], [], _ => rfl
  | x :: es, y :: fs, h => by simp only [sameEs, Bool.and_eq_true] at h; simp [sameEs_len h.2]
  | [], _ :: _, h => by simp [sameEs] at h
  | _ :: _, [], h => by simp [sameEs] at h
theorem sameEs_drop {es fs : List En} {i : Nat} {x y : En} (hx : es[i]? = some x) (hy : fs[i]? = some y) : sameEs (es.drop i) (fs.drop i) = (decide (x.1 = y.1) && decide (x.2.cmp y.2 = 0) && sameEs (es.drop (i + 1)) (fs.drop (i + 1))) := by
  obtain ⟨h1, e1⟩ := List.getElem?_eq_some_iff.1 hx
  obtain ⟨h2, e2⟩ := List.getElem?_eq_some_iff.1 hy
  rw [List.drop_eq_getElem_cons h1, List.drop_eq_getElem_cons h2, e1, e2]
  simp only [sameEs]

set_option maxRecDepth 100000 in
set_option maxHeartbeats 4000000 in
theorem sameEntries_any (es fs : List En) (hl : es.length * 104 ≤ 140737488355328) (hl' : fs.length * 104 ≤ 140737488355328) (hf : ∀ e ∈ es, e.2.Fits) (hf' : ∀ e ∈ fs, e.2.Fits)
    (w : World) (S T : Nat → Prop) (p q : Option Addr) (c d : Nat) (h : EIn w S es p) (h' : EIn w T fs q) :
    Calls Try.prog 44 #[.slice p es.length c, .slice q fs.length d] w (BoolPost (sameEs es fs) w) := by
  have H := Lib.hid h
  have H' := Lib.hid h'
  have Hf := Lib.hid hf
  have Hf' := Lib.hid hf'
  clear h h' hf hf'
  by_cases hlen : es.length = fs.length
  case neg =>
    have hn : ((es.length : Int) != (fs.length : Int)) = true := by rw [bne_iff_ne]; omega
    have Hfin : Hid (sameEs es fs = false) := by
      cases e : sameEs es fs with
      | false => rfl
      | true => exact absurd (sameEs_len e) hlen
    clear hlen
    go_enter Try.func44, Try.ntmps44
    go_wp2_with fail
    go_ret
    exact ⟨by rw [Hfin.out]; rfl, Below.refl _ _⟩
  case pos =>
  have hn : ((es.length : Int) != (fs.length : Int)) = false := by rw [hlen]; simp
  have Hlen := Lib.hid hlen
  clear hlen
  go_enter Try.func44, Try.ntmps44
  go_wp2_with fail
  go_loopw [5] (fun v5 wr => ∃ i : Nat, v5 = .int .i64 i ∧ i ≤ es.length ∧ Hid (sameEs (es.drop i) (fs.drop i) = sameEs es fs) ∧ Hid (Below w.heap.size w wr)) (fun v5 _ => es.length - (intOf v5).toNat)
  case atStart => exact ⟨0, rfl, by omega, rfl, Below.refl _ _⟩
  case round =>
    obtain ⟨i, rfl, hi, Hd, Hb⟩ := hrel
    by_cases h1 : i < es.length
    · have h2 : i < fs.length := by rw [← Hlen.out]; exact h1
      obtain ⟨⟨kx, x⟩, hx⟩ : ∃ x, es[i]? = some x := ⟨_, List.getElem?_eq_getElem h1⟩
      obtain ⟨⟨ky, y⟩, hy⟩ : ∃ y, fs[i]? = some y := ⟨_, List.getElem?_eq_getElem h2⟩
      obtain ⟨ax, xpl, xcl, xpo, xco, rfl, hSx, hcx, hvx⟩ := H.out i _ hx
      obtain ⟨ay, ypl, ycl, ypo, yco, rfl, hSy, hcy, hvy⟩ := H'.out i _ hy
      have hcx' : Cells wr (ax.add (i * 7)) (ecells kx x xpl xcl xpo xco) := hcx.keep (S := S) (fun b _ hl => Hb.out.block b hl) (by rw [block_add]; exact hSx)
      have hcy' : Cells wr (ay.add (i * 7)) (ecells ky y ypl ycl ypo yco) := hcy.keep (S := T) (fun b _ hl => Hb.out.block b hl) (by rw [block_add]; exact hSy)
      obtain ⟨e0, e1, e2, e3, e4, e5, e6⟩ := hcx'.at7
      obtain ⟨f0, f1, f2, f3, f4, f5, f6⟩ := hcy'.at7
      have hcall := rcompare_any (Hf.out _ (List.mem_of_getElem? hx)) y (Hf'.out _ (List.mem_of_getElem? hy)) wr.drew S T xpl xpo ypl ypo xcl xco ycl yco (hvx.under Hb.out).drew (hvy.under Hb.out).drew
      have hstep := sameEs_drop hx hy
      have Hcall := Lib.hid hcall
      have Hstep := Lib.hid hstep
      clear hcx hcy hcx' hcy' hvx hvy hcall hstep hx hy
      have hi0 : (0 : Int) ≤ (i : Int) := by omega
      have hi1 : (i : Int) < (es.length : Int) := by omega
      have hi2 : (i : Int) < (fs.length : Int) := by omega
      by_cases hk : kx = ky
      · subst hk
        by_cases hz : x.cmp y = 0
        · have hz1 : (x.cmp y != 0) = false := by simpa using hz
          have Hz := Lib.hid hz
          clear hz
          go_wp2_with fail
          go_region_held3 (fun w' => w'.cell? (ax.add (i * 7)) = some (.string kx) ∧ w'.cell? ⟨(ax.add (i * 7)).block, (ax.add (i * 7)).off + 1, none⟩ = some (.int .i64 x.kind) ∧ w'.cell? ⟨(ax.add (i * 7)).block, (ax.add (i * 7)).off + 2, none⟩ = some (.bool x.bool) ∧ w'.cell? ⟨(ax.add (i * 7)).block, (ax.add (i * 7)).off + 3, none⟩ = some (.int .i64 x.num) ∧ w'.cell? ⟨(ax.add (i * 7)).block, (ax.add (i * 7)).off + 4, none⟩ = some (.string x.text) ∧ w'.cell? ⟨(ax.add (i * 7)).block, (ax.add (i * 7)).off + 5, none⟩ = some (.slice xpl x.list.length xcl) ∧ w'.cell? ⟨(ax.add (i * 7)).block, (ax.add (i * 7)).off + 6, none⟩ = some (.slice xpo x.obj.length xco) ∧ w'.cell? (ay.add (i * 7)) = some (.string kx) ∧ w'.cell? ⟨(ay.add (i * 7)).block, (ay.add (i * 7)).off + 1, none⟩ = some (.int .i64 y.kind) ∧ w'.cell? ⟨(ay.add (i * 7)).block, (ay.add (i * 7)).off + 2, none⟩ = some (.bool y.bool) ∧ w'.cell? ⟨(ay.add (i * 7)).block, (ay.add (i * 7)).off + 3, none⟩ = some (.int .i64 y.num) ∧ w'.cell? ⟨(ay.add (i * 7)).block, (ay.add (i * 7)).off + 4, none⟩ = some (.string y.text) ∧ w'.cell? ⟨(ay.add (i * 7)).block, (ay.add (i * 7)).off + 5, none⟩ = some (.slice ypl y.list.length ycl) ∧ w'.cell? ⟨(ay.add (i * 7)).block, (ay.add (i * 7)).off + 6, none⟩ = some (.slice ypo y.obj.length yco))
            (first | go_keep | trace_state)
            (first | (go_at_call 111; refine Hcall.out.mono ?_; rintro e w1 ⟨rfl, hb1⟩; have hb1 := below_of_drew hb1; have Hb1 := Lib.hid hb1; have hk1 := fun (p : Addr) (v : Value) (h : wr.cell? p = some v) => cell_below hb1 h; clear hb1))
          go_wp2_with fail
          go_roundw
          case measure => simp [intOf]; omega
          case rel => exact ⟨i + 1, by go_num, by omega, by have := Hstep.out; rw [Hd.out] at this; simp [Hz.out] at this; exact this.symm, bel_tr Hb.out Hb1.out⟩
        · have hz1 : (x.cmp y != 0) = true := by simpa using hz
          have Hz := Lib.hid hz
          clear hz
          go_wp2_with fail
          go_region_held3 (fun w' => w'.cell? (ax.add (i * 7)) = some (.string kx) ∧ w'.cell? ⟨(ax.add (i * 7)).block, (ax.add (i * 7)).off + 1, none⟩ = some (.int .i64 x.kind) ∧ w'.cell? ⟨(ax.add (i * 7)).block, (ax.add (i * 7)).off + 2, none⟩ = some (.bool x.bool) ∧ w'.cell? ⟨(ax.add (i * 7)).block, (ax.add (i * 7)).off + 3, none⟩ = some (.int .i64 x.num) ∧ w'.cell? ⟨(ax.add (i * 7)).block, (ax.add (i * 7)).off + 4, none⟩ = some (.string x.text) ∧ w'.cell? ⟨(ax.add (i * 7)).block, (ax.add (i * 7)).off + 5, none⟩ = some (.slice xpl x.list.length xcl) ∧ w'.cell? ⟨(ax.add (i * 7)).block, (ax.add (i * 7)).off + 6, none⟩ = some (.slice xpo x.obj.length xco) ∧ w'.cell? (ay.add (i * 7)) = some (.string kx) ∧ w'.cell? ⟨(ay.add (i * 7)).block, (ay.add (i * 7)).off + 1, none⟩ = some (.int .i64 y.kind) ∧ w'.cell? ⟨(ay.add (i * 7)).block, (ay.add (i * 7)).off + 2, none⟩ = some (.bool y.bool) ∧ w'.cell? ⟨(ay.add (i * 7)).block, (ay.add (i * 7)).off + 3, none⟩ = some (.int .i64 y.num) ∧ w'.cell? ⟨(ay.add (i * 7)).block, (ay.add (i * 7)).off + 4, none⟩ = some (.string y.text) ∧ w'.cell? ⟨(ay.add (i * 7)).block, (ay.add (i * 7)).off + 5, none⟩ = some (.slice ypl y.list.length ycl) ∧ w'.cell? ⟨(ay.add (i * 7)).block, (ay.add (i * 7)).off + 6, none⟩ = some (.slice ypo y.obj.length yco))
            (first | go_keep | trace_state)
            (first | (go_at_call 111; refine Hcall.out.mono ?_; rintro e w1 ⟨rfl, hb1⟩; have hb1 := below_of_drew hb1; have Hb1 := Lib.hid hb1; have hk1 := fun (p : Addr) (v : Value) (h : wr.cell? p = some v) => cell_below hb1 h; clear hb1))
          go_wp2_with fail
          go_ret
          exact ⟨by have := Hstep.out; rw [Hd.out] at this; simp [Hz.out] at this; rw [this]; rfl, bel_tr Hb.out Hb1.out⟩
      · have hk1 : (kx.toList == ky.toList) = false := by rw [keq_iff]; simpa using hk
        have Hk := Lib.hid hk
        clear hk
        go_wp2_with fail
        go_quiet (fail)
        go_wp2_with fail
        go_ret
        exact ⟨by have := Hstep.out; rw [Hd.out] at this; simp [Hk.out] at this; rw [this]; rfl, below_drewN Hb.out _⟩
    · have Hfin : Hid (sameEs es fs = true) := by
        have := Hd.out
        rw [List.drop_of_length_le (by omega), List.drop_of_length_le (by have := Hlen.out; omega)] at this
        exact this.symm
      go_wp2_with fail
      go_ret
      exact ⟨by rw [Hfin.out]; rfl, Hb.out⟩

/-- Two shapes in two boxes. -/
structure TwoS (w : World) (cs ds : Array Value) (wr : World) : Prop where
  bx : Blk wr w.heap.size 28 cs
  by_ : Blk wr (w.heap.size + 1) 28 ds
  bel : Below w.heap.size w wr
theorem TwoS.new (w : World) (cs ds : Array Value) : TwoS w cs ds ((w.alloc (.cells cs 28)).alloc (.cells ds 28)) := by
  refine ⟨(Blk.new w 28 cs).alloc _, ?_, ((Below.refl _ w).alloc (Nat.le_refl _) _).alloc (by simp) _⟩
  have := Blk.new (w.alloc (.cells cs 28)) 28 ds
  rwa [World.size_alloc] at this
theorem TwoS.under {w wr w1 : World} {cs ds : Array Value} (h : TwoS w cs ds wr) (hb : Below wr.heap.size wr w1) : TwoS w cs ds w1 := ⟨h.bx.under hb, h.by_.under hb, below_then h.bel h.bel.size hb⟩

set_option maxRecDepth 100000 in
set_option maxHeartbeats 4000000 in
theorem rsame_any (s : Sh) : s.Fits → ∀ (w : World) (S T : Nat → Prop) (pe pk qe qk : Option Addr) (ce ck de dk : Nat), SIn w S s pe pk → SIn w T s qe qk →
    Calls Try.prog 39 #[.agg #[.slice pe s.es.length ce, .slice pk s.kids.length ck], .agg #[.slice qe s.es.length de, .slice qk s.kids.length dk]] w (BoolPost true w) := by
  induction s using Sh.ind with
  | h es ks ih =>
  intro hf w S T pe pk qe qk ce ck de dk hs ht
  have hsk := hs.kids_
  have htk := ht.kids_
  have hfe := hf.ents
  have hfk := hf.kids_
  simp only [Sh.es, Sh.kids] at hsk htk hfe hfk ⊢
  have HB0 := Lib.hid (TwoS.new w #[.slice pe es.length ce, .slice pk ks.length ck] #[.slice qe es.length de, .slice qk ks.length dk])
  have HcE := Lib.hid (fun (W : World) (hW : Below w.heap.size w W) => sameEntries_any es es hfe.1 hfe.1 hfe.2 hfe.2 W S T pe qe ce de (hs.ents.under hW) (ht.ents.under hW))
  have hkl := hfk.1
  have Hs := Lib.hid hsk
  have Ht := Lib.hid htk
  have Hfk := Lib.hid hfk.2
  have Ih := Lib.hid ih
  have Hse := Lib.hid (sameEs_self es)
  clear hs ht hsk htk hfe hfk ih hf
  have hnn : ((ks.length : Int) != (ks.length : Int)) = false := by simp
  go_enter Try.func39, Try.ntmps39
  go_wp2_with fail
  refine (HcE.out _ HB0.out.bel).mono ?_
  rintro e w1 ⟨rfl, hb1⟩
  rw [Hse.out]
  have HB1 := Lib.hid (HB0.out.under hb1)
  have c0 := HB1.out.bx.cell 1
  have d0 := HB1.out.by_.cell 1
  simp at c0 d0
  clear hb1 HB0 HcE
  go_wp2_with fail
  clear c0 d0
  go_loopw [5] (fun v5 wr => ∃ i : Nat, v5 = .int .i64 i ∧ i ≤ ks.length ∧ Hid (TwoS w #[.slice pe es.length ce, .slice pk ks.length ck] #[.slice qe es.length de, .slice qk ks.length dk] wr)) (fun v5 _ => ks.length - (intOf v5).toNat)
  case atStart => exact ⟨0, rfl, by omega, HB1⟩
  case round =>
    obtain ⟨i, rfl, hi, Hr⟩ := hrel
    have c1 := Hr.out.bx.cell 1
    have d1 := Hr.out.by_.cell 1
    simp at c1 d1
    by_cases h1 : i < ks.length
    · obtain ⟨k, hk⟩ : ∃ k, ks[i]? = some k := ⟨_, List.getElem?_eq_getElem h1⟩
      obtain ⟨ax, xqe, xde, xqk, xdk, rfl, e0, e1, hkx⟩ := Hs.out.cells hk
      obtain ⟨ay, yqe, yde, yqk, ydk, rfl, f0, f1, hky⟩ := Ht.out.cells hk
      have hcall := Ih.out k (List.mem_of_getElem? hk) (Hfk.out k (List.mem_of_getElem? hk)) wr.drew S T xqe xqk yqe yqk xde xdk yde ydk (hkx.under Hr.out.bel).drew (hky.under Hr.out.bel).drew
      have e0' := cell_below Hr.out.bel e0
      have e1' := cell_below Hr.out.bel e1
      have f0' := cell_below Hr.out.bel f0
      have f1' := cell_below Hr.out.bel f1
      have Hcall := Lib.hid hcall
      clear e0 e1 f0 f1 hkx hky hcall hk
      have hi0 : (0 : Int) ≤ (i : Int) := by omega
      have hi1 : (i : Int) < (ks.length : Int) := by omega
      go_wp2_with fail
      go_region_held3 (fun w' => w'.cell? ⟨w.heap.size, 1, none⟩ = some (.slice (some ax) ks.length ck) ∧ w'.cell? ⟨w.heap.size + 1, 1, none⟩ = some (.slice (some ay) ks.length dk) ∧ w'.cell? (ax.add (i * 2)) = some (.slice xqe k.es.length xde) ∧ w'.cell? ⟨(ax.add (i * 2)).block, (ax.add (i * 2)).off + 1, none⟩ = some (.slice xqk k.kids.length xdk) ∧ w'.cell? (ay.add (i * 2)) = some (.slice yqe k.es.length yde) ∧ w'.cell? ⟨(ay.add (i * 2)).block, (ay.add (i * 2)).off + 1, none⟩ = some (.slice yqk k.kids.length ydk))
        (first | go_keep | trace_state)
        (first | (go_at_call 39; refine Hcall.out.mono ?_; rintro e w1 ⟨rfl, hb1⟩; have hb1 := below_of_drew hb1; have Hb1 := Lib.hid hb1; have hk1 := fun (p : Addr) (v : Value) (h : wr.cell? p = some v) => cell_below hb1 h; clear hb1))
      go_wp2_with fail
      go_roundw
      case measure => simp [intOf]; omega
      case rel => exact ⟨i + 1, by go_num, by omega, Hr.out.under Hb1.out⟩
    · go_wp2_with fail
      go_ret
      exact ⟨rfl, Hr.out.bel⟩
end Go.Proofs.Ytajcmpafbcpicaa
